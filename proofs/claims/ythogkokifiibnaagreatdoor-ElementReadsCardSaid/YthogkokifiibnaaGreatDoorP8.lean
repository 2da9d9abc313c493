/- Comments in front of a file and behind it: plain. What ParseFile reads can be written: plain. What is read is not longer, written again: plain. -/
import Derived.Test.YthogkokifiibnaaGreatDoorA6
namespace Go.Proofs.YthogkokifiibnaaGreatDoor
open Go.RowKit Go.Sort

theorem step_blank (s : StF) {l : List UInt8} (h : contentP l = []) : stepF s l = some ⟨s.r, s.first, s.n + 1⟩ := by
  unfold stepF
  rw [h]
  rfl
theorem content_note (a note : List UInt8) (ha : (35 : UInt8) ∉ a) (ht : Lib.trimRightB a 32 = []) : contentP (a ++ 35 :: note) = [] := by
  unfold contentP
  rw [cutB_app ha note]
  exact ht
/-- a file with a comment and an empty line in front of it, and a comment behind it -/
theorem comments_parse {c : CollD} (h : OkC c) (hw : WfC c) {note : List UInt8} (hn : (10 : UInt8) ∉ note) (hl : (fileP c).length ≤ 10000) (hnl : note.length ≤ 40) :
    parseF ([32, 32, 35] ++ note ++ [10, 10] ++ fileP c ++ [35] ++ note) = (c, (0, 0)) := by
  have e : [32, 32, 35] ++ note ++ [10, 10] ++ fileP c ++ [35] ++ note = ([32, 32, 35] ++ note) ++ 10 :: ([] ++ 10 :: (fileP c ++ 35 :: note)) := by simp
  have h1 : (10 : UInt8) ∉ [32, 32, 35] ++ note := by
    intro hm
    rcases List.mem_append.1 hm with hm | hm
    · revert hm
      decide
    · exact hn hm
  have h2 : linesL (35 :: note) = [35 :: note] := linesL_none _ (cutB_none.2 (fun hm => by
    rcases List.mem_cons.1 hm with hm | hm
    · revert hm
      decide
    · exact hn hm)) (by simp)
  have c1 : contentP ([32, 32, 35] ++ note) = [] := content_note [32, 32] note (by decide) (by decide +kernel)
  have c2 : contentP (35 :: note) = [] := content_note [] note (by simp) (by decide +kernel)
  unfold parseF
  rw [if_neg (by simp; omega), e, linesL_cut _ (cutB_app h1 _), linesL_cut _ (cutB_app (by simp) _)]
  have e2 : linesL (fileP c ++ 35 :: note) = fileLs c ++ [35 :: note] := by
    unfold fileP
    rw [linesL_nl _ _ (fileLs_10 h), h2]
  rw [e2, runF, step_blank _ c1]
  dsimp only
  rw [runF, step_blank _ (show contentP [] = [] from rfl)]
  dsimp only
  have hs := steps_file h hw (0, 0) 2
  rw [show (⟨startF.r, startF.first, startF.n + 1 + 1⟩ : StF) = ⟨⟨zeroC, false⟩, (0, 0), 2⟩ from rfl, runF_app _ _ _ _ hs, runF, step_blank _ c2]
  rfl
end Go.Proofs.YthogkokifiibnaaGreatDoor
namespace Go.Proofs.YthogkokifiibnaaGreatDoor
open Go.RowKit Go.Sort

def rngI (n : Int) : Prop := 0 ≤ n ∧ n ≤ 9223372036854775807
structure OkR (N : Nat) (r : RdD) : Prop where
  b : rngI r.c.base ∧ rngI r.c.second ∧ rngI r.c.third
  g : ∀ x ∈ r.c.groups, rngI x.lo ∧ rngI x.hi ∧ nameB x.name = true
  e : ∀ x ∈ r.c.entries, allValid x.codes = true ∧ x.codes.length ≤ N + 1 ∧ x.els.length * 17 ≤ N
structure InvF (N : Nat) (s : StF) : Prop where
  r : OkR N s.r
  f : s.first.1 = 0 → ∀ x ∈ s.r.c.entries, chksE x.els = 0
  a : s.first.1 ≠ 0 → 1 ≤ s.first.2
  ne : s.r.c.entries.length ≤ s.n
  ng : s.r.c.groups.length ≤ s.n
theorem numsP_rng : ∀ (ps : List (List UInt8)) {ns : List Int}, numsP ps = some ns → ∀ n ∈ ns, rngI n
  | [], ns, h, n, hn => by simp [numsP] at h; subst h; cases hn
  | p :: ps, ns, h, n, hn => by
    rw [numsP] at h
    cases hp : numP p with
    | none => rw [hp] at h; cases h
    | some m =>
      rw [hp] at h
      cases hr : numsP ps with
      | none => rw [hr] at h; cases h
      | some r =>
        rw [hr] at h
        simp at h
        subst h
        rcases List.mem_cons.1 hn with rfl | hn
        · exact ⟨(numP_back hp).1, (numP_back hp).2.1⟩
        · exact numsP_rng ps hr n hn
theorem nth_rng {ns : List Int} (h : ∀ n ∈ ns, rngI n) (k : Nat) : rngI (nth ns k) := by
  by_cases hk : k < ns.length
  · exact h _ (nth_mem hk)
  · unfold nth
    rw [List.getD_eq_getElem?_getD, List.getElem?_eq_none (by omega)]
    exact ⟨by decide, by decide⟩
theorem codesFrom_len : ∀ (ps : List (List UInt8)) (acc : List Int), (codesFrom ps acc).1.length ≤ acc.length + ps.length
  | [], acc => by simp [codesFrom]
  | p :: ps, acc => by
    rw [codesFrom]
    cases parseCp p with
    | none => simp
    | some c =>
      have := codesFrom_len ps (acc ++ [c])
      simp at this ⊢
      omega
theorem parseCodes_len (l : List UInt8) : (parseCodesR l).1.length ≤ l.length + 1 := by
  unfold parseCodesR
  split
  · simp
  · have h := codesFrom_len (splitL 32 l) []
    rw [splitL_length] at h
    have := List.count_le_length (a := (32 : UInt8)) (l := l)
    simp at h
    omega
theorem cutS_len (l s : List UInt8) : (Lib.cut l s).1.length ≤ l.length ∧ (Lib.cut l s).2.1.length ≤ l.length := by
  unfold Lib.cut
  split
  · simp
    omega
  · simp
theorem contentS_len (l : List UInt8) : (contentP l).length ≤ l.length := by
  unfold contentP
  cases hc : cutB 35 l with
  | none => exact Nat.le_refl _
  | some p =>
    obtain ⟨e, _⟩ := cutB_some (a := p.1) (r := p.2) hc
    have h2 : p.1.length ≤ l.length := by rw [e]; simp
    have h := (List.dropWhile_sublist (l := p.1.reverse) (· == (32 : UInt8))).length_le
    rw [List.length_reverse] at h
    show (Lib.trimRightB p.1 32).length ≤ _
    unfold Lib.trimRightB
    rw [List.length_reverse]
    omega
theorem entP_ok {t : List UInt8} {x : EntryD} (h : entP t = some x) : allValid x.codes = true ∧ x.codes.length ≤ t.length + 1 ∧ x.els.length * 17 ≤ t.length := by
  unfold entP at h
  split at h
  · cases h
  · split at h
    · cases h
    · rename_i hc
      have hc : (parseCodesR (Lib.cut t [59, 32]).1).2 = 0 := Classical.byContradiction fun h => hc h
      cases hr : readE (Lib.cut t [59, 32]).2.1 with
      | none => rw [hr] at h; cases h
      | some es =>
        rw [hr] at h
        simp at h
        subst h
        have h1 := readE_len _ (Nat.le_refl _) hr
        have h2 := cutS_len t [59, 32]
        have h3 := parseCodes_len (Lib.cut t [59, 32]).1
        exact ⟨parseCodes_valid hc, by dsimp only; omega, by dsimp only; omega⟩
theorem step_inv {N : Nat} {s s' : StF} {l : List UInt8} (h : InvF N s) (hl : l.length ≤ N) (hs : stepF s l = some s') : InvF N s' ∧ s'.n = s.n + 1 := by
  unfold stepF at hs
  have hcl := contentS_len l
  generalize contentP l = t at hs hcl
  obtain ⟨hr, hf, ha, hne, hng⟩ := h
  unfold stepT at hs
  split at hs
  · injection hs with hs
    subst hs
    exact ⟨⟨hr, hf, ha, by dsimp only; omega, by dsimp only; omega⟩, rfl⟩
  · cases hb : baseP s.r t with
    | some r' =>
      rw [hb] at hs
      injection hs with hs
      subst hs
      unfold baseP at hb
      split at hb
      · cases hb
      · cases hn : numsP ((splitL 32 t).drop 1) with
        | none => rw [hn] at hb; cases hb
        | some ns =>
          rw [hn] at hb
          injection hb with hb
          subst hb
          have hrg := numsP_rng _ hn
          exact ⟨⟨⟨⟨nth_rng hrg 0, nth_rng hrg 1, nth_rng hrg 2⟩, hr.g, hr.e⟩, hf, ha, by dsimp only; omega, by dsimp only; omega⟩, rfl⟩
    | none =>
      rw [hb] at hs
      cases hg : groupP s.r t with
      | some r' =>
        rw [hg] at hs
        injection hs with hs
        subst hs
        unfold groupP at hg
        split at hg
        · cases hg
        · rename_i hcond
          cases hn : numsP ((splitL 32 t).drop 2) with
          | none => rw [hn] at hg; cases hg
          | some ns =>
            rw [hn] at hg
            injection hg with hg
            subst hg
            have hrg := numsP_rng _ hn
            have hnm : nameB (piece (splitL 32 t) 1) = true := by
              simp only [Bool.or_eq_true, not_or, Bool.not_eq_true'] at hcond
              simpa using hcond.2
            refine ⟨⟨⟨hr.b, fun x hx => ?_, hr.e⟩, hf, ha, by dsimp only; omega, by simp; omega⟩, rfl⟩
            rcases List.mem_append.1 hx with hx | hx
            · exact hr.g x hx
            · simp at hx
              subst hx
              exact ⟨nth_rng hrg 0, nth_rng hrg 1, hnm⟩
      | none =>
        rw [hg] at hs
        cases he : entryP s.r t with
        | none => rw [he] at hs; cases hs
        | some x =>
          rw [he] at hs
          injection hs with hs
          subst hs
          have hx : entP t = some x := by
            unfold entryP at he
            split at he
            · exact he
            · cases he
          obtain ⟨k1, k2, k3⟩ := entP_ok hx
          refine ⟨⟨⟨hr.b, hr.g, fun y hy => ?_⟩, ?_, ?_, by simp [addN]; omega, by simp [addN]; omega⟩, rfl⟩
          · rcases List.mem_append.1 hy with hy | hy
            · exact hr.e y hy
            · simp at hy
              subst hy
              exact ⟨k1, by omega, by omega⟩
          · dsimp only
            split
            · rename_i hc
              intro h0
              exact absurd h0 hc.1
            · rename_i hc
              intro h0 y hy
              rcases List.mem_append.1 hy with hy | hy
              · exact hf h0 y hy
              · simp at hy
                subst hy
                exact Classical.byContradiction fun h => hc ⟨h, h0⟩
          · dsimp only
            split
            · intro _
              dsimp only
              omega
            · exact ha
/-- what a reading ends in -/
def Reads (N m : Nat) (q : CollD × (Int × Int)) : Prop :=
  (q.2.1 ≠ 0 ∧ q.1 = zeroC ∧ 1 ≤ q.2.2) ∨ (q.2 = (0, 0) ∧ OkC q.1 ∧ WfC q.1 ∧ q.1.entries.length ≤ m ∧ q.1.groups.length ≤ m ∧ ∀ x ∈ q.1.entries, x.codes.length ≤ N + 1 ∧ x.els.length * 17 ≤ N)
theorem run_reads {N : Nat} : ∀ (ls : List (List UInt8)) (s : StF), InvF N s → (∀ l ∈ ls, l.length ≤ N) → Reads N (s.n + ls.length) (runF ls s)
  | [], s, h, _ => by
    show Reads N _ (finF s)
    unfold finF
    split
    · left
      refine ⟨by simp, rfl, ?_⟩
      dsimp only
      omega
    · split
      · rename_i hz
        exact .inl ⟨hz, rfl, h.a hz⟩
      · rename_i hz
        have hz : s.first.1 = 0 := Classical.byContradiction fun h => hz h
        have hb := h.r.b
        unfold rngI at hb
        refine .inr ⟨rfl, ⟨⟨hb.1.1, hb.2.1.1, hb.2.2.1⟩, fun x hx => ?_, fun x hx => ⟨(h.r.e x hx).1, h.f hz x hx⟩⟩, ⟨hb.1.2, hb.2.1.2, hb.2.2.2, fun x hx => ?_⟩, h.ne, h.ng, fun x hx => (h.r.e x hx).2⟩
        · have := h.r.g x hx
          unfold rngI at this
          exact ⟨this.1.1, this.2.1.1, this.2.2⟩
        · have := h.r.g x hx
          unfold rngI at this
          exact ⟨this.1.2, this.2.1.2⟩
  | l :: ls, s, h, hl => by
    rw [runF]
    cases hs : stepF s l with
    | none =>
      left
      refine ⟨by simp, rfl, ?_⟩
      dsimp only
      omega
    | some s' =>
      obtain ⟨h1, h2⟩ := step_inv h (hl l (by simp)) hs
      have ih := run_reads ls s' h1 (fun x hx => hl x (by simp [hx]))
      rw [h2] at ih
      rw [List.length_cons, show s.n + (ls.length + 1) = s.n + 1 + ls.length by omega]
      exact ih
theorem linesL_le : ∀ (l : List UInt8), (linesL l).length ≤ l.length ∧ ∀ p ∈ linesL l, p.length ≤ l.length
  | [] => ⟨by simp [linesL], fun p hp => by simp [linesL] at hp⟩
  | b :: r => by
    obtain ⟨h1, h2⟩ := linesL_le r
    rw [linesL]
    split
    · refine ⟨by simp; exact h1, fun p hp => ?_⟩
      rcases List.mem_cons.1 hp with rfl | hp
      · simp
      · have := h2 p hp
        simp
        omega
    · cases hr : linesL r with
      | nil => exact ⟨by simp, fun p hp => by simp at hp; subst hp; simp⟩
      | cons q qs =>
        rw [hr] at h1 h2
        refine ⟨by simp at h1 ⊢; omega, fun p hp => ?_⟩
        rcases List.mem_cons.1 hp with rfl | hp
        · have := h2 q (by simp)
          simp
          omega
        · have := h2 p (by simp [hp])
          simp
          omega
theorem parse_reads {l : List UInt8} (hl : l.length ≤ 65536) : Reads l.length l.length (parseF l) := by
  unfold parseF
  rw [if_neg (by omega)]
  obtain ⟨h1, h2⟩ := linesL_le l
  have h0 : InvF l.length startF := ⟨⟨⟨⟨by decide, by decide⟩, ⟨by decide, by decide⟩, ⟨by decide, by decide⟩⟩, (fun x hx => by cases hx), (fun x hx => by cases hx)⟩, (fun _ x hx => by cases hx), (fun h => absurd rfl h), Nat.le_refl _, Nat.le_refl _⟩
  have h := run_reads (linesL l) startF h0 h2
  rw [show startF.n = 0 from rfl, Nat.zero_add] at h
  rcases h with h | ⟨k1, k2, k3, k4, k5, k6⟩
  · exact .inl h
  · exact .inr ⟨k1, k2, k3, by omega, by omega, k6⟩
/-- what is written is read -/
theorem file_reads {c : CollD} (h : OkC c) (hw : WfC c) (hl : (fileP c).length ≤ 65536) : parseF (fileP c) = (c, (0, 0)) := by
  have e := run_file h hw []
  rw [List.append_nil] at e
  unfold parseF
  rw [if_neg (by omega), e]
  rfl
end Go.Proofs.YthogkokifiibnaaGreatDoor
namespace Go.Proofs.YthogkokifiibnaaGreatDoor
open Go.RowKit Go.Sort

theorem join_split : ∀ (n : Nat) (l : List UInt8), l.length ≤ n → joinL (splitL 32 l) = l := by
  intro n
  induction n with
  | zero =>
    intro l h
    obtain rfl : l = [] := List.length_eq_zero_iff.1 (by omega)
    rfl
  | succ n ih =>
    intro l h
    rw [splitL_cut]
    cases hc : cutB 32 l with
    | none => rfl
    | some p =>
      obtain ⟨a, r⟩ := p
      obtain ⟨e, _⟩ := cutB_some hc
      have hr : r.length ≤ n := by rw [e] at h; simp at h; omega
      dsimp only
      cases hs : splitL 32 r with
      | nil => exact absurd hs (splitL_ne 32 r)
      | cons q qs =>
        rw [joinL, ← hs, ih r hr, e]
theorem codes_read : ∀ (ps : List (List UInt8)) (acc : List Int), (codesFrom ps acc).2 = 0 → (codesFrom ps acc).1.map hexL = acc.map hexL ++ ps
  | [], acc, _ => by simp [codesFrom]
  | p :: ps, acc, h0 => by
    cases hp : parseCp p with
    | none => rw [codesFrom, hp] at h0; cases h0
    | some c =>
      rw [codesFrom, hp] at h0 ⊢
      have ih := codes_read ps (acc ++ [c]) h0
      rw [ih]
      simp [(parseCp_hex hp).1]
theorem codes_again {l : List UInt8} (h : (parseCodesR l).2 = 0) : codesL (parseCodesR l).1 = l := by
  unfold parseCodesR at h ⊢
  split
  · rename_i he
    rw [he]
    rfl
  · rename_i he
    rw [if_neg he] at h
    unfold codesL
    rw [codes_read _ _ h, List.map_nil, List.nil_append, join_split l.length l (Nat.le_refl _)]
theorem index_in : ∀ (l s : List UInt8), 0 ≤ Lib.index l s → l = l.take (Lib.index l s).toNat ++ s ++ l.drop ((Lib.index l s).toNat + s.length)
  | [], s, h => by
    unfold Lib.index at h ⊢
    split
    · rename_i he
      cases s with
      | nil => rfl
      | cons => simp at he
    · rename_i he
      rw [if_neg he] at h
      exact absurd h (by decide)
  | b :: l, s, h => by
    unfold Lib.index at h ⊢
    split
    · rename_i hp
      obtain ⟨r, hr⟩ := List.isPrefixOf_iff_prefix.1 hp
      have e : ((0 : Int)).toNat = 0 := rfl
      rw [e, List.take_zero, Nat.zero_add, List.nil_append, ← hr, List.drop_left' rfl]
    · rename_i hp
      rw [if_neg hp] at h
      split
      · rename_i hm
        rw [if_pos hm] at h
        exact absurd h (by decide)
      · rename_i hm
        have hge := Lib.index_ge l s
        have hm : ¬ Lib.index l s = -1 := by simpa using hm
        have h0 : 0 ≤ Lib.index l s := by omega
        have ih := index_in l s h0
        have e : (Lib.index l s + 1).toNat = (Lib.index l s).toNat + 1 := by omega
        rw [e, List.take_succ_cons, show (Lib.index l s).toNat + 1 + s.length = ((Lib.index l s).toNat + s.length) + 1 by omega, List.drop_succ_cons]
        rw [List.cons_append, List.cons_append, ← ih]
theorem entP_line_back {t : List UInt8} {x : EntryD} (h : entP t = some x) : eLine x = t := by
  unfold entP at h
  split at h
  · cases h
  · rename_i hk
    split at h
    · cases h
    · rename_i hc
      have hc : (parseCodesR (Lib.cut t [59, 32]).1).2 = 0 := Classical.byContradiction fun h => hc h
      cases hr : readE (Lib.cut t [59, 32]).2.1 with
      | none => rw [hr] at h; cases h
      | some es =>
        rw [hr] at h
        simp at h
        subst h
        unfold eLine
        rw [codes_again hc, (readE_back _ (Nat.le_refl _) hr).1]
        unfold Lib.cut at hk ⊢
        split
        · rename_i hi
          exact (index_in t [59, 32] hi).symm
        · rename_i hi
          rw [if_neg hi] at hk
          exact absurd rfl hk

def wrt (s : StF) : Nat := if s.r.started then (fileP s.r.c).length else 0
def InvW (s : StF) : Prop := s.r.started = false → s.r.c.entries = [] ∧ s.r.c.groups = []
theorem four_words {t : List UInt8} (h : (splitL 32 t).length = 4) : ∃ p0 p1 p2 p3, splitL 32 t = [p0, p1, p2, p3] ∧ t = p0 ++ 32 :: (p1 ++ 32 :: (p2 ++ 32 :: p3)) := by
  have e := join_split t.length t (Nat.le_refl _)
  match hs : splitL 32 t, h with
  | [p0, p1, p2, p3], _ =>
    rw [hs] at e
    exact ⟨p0, p1, p2, p3, rfl, e.symm⟩
theorem nums_back : ∀ (ps : List (List UInt8)) {ns : List Int}, numsP ps = some ns → ns.map Lib.itoa = ps
  | [], ns, h => by simp [numsP] at h; subst h; rfl
  | p :: ps, ns, h => by
    rw [numsP] at h
    cases hp : numP p with
    | none => rw [hp] at h; cases h
    | some m =>
      rw [hp] at h
      cases hr : numsP ps with
      | none => rw [hr] at h; cases h
      | some r =>
        rw [hr] at h
        simp at h
        subst h
        rw [List.map_cons, (numP_back hp).2.2, nums_back ps hr]
theorem nlL (l : List UInt8) : (nl l).length = l.length + 1 := by simp [nl]
theorem fileP_len (c : CollD) : (fileP c).length = (bLine c).length + 1 + ((c.groups.flatMap fun g => nl (gLine g)).length + (c.entries.flatMap fun e => nl (eLine e)).length) := by
  unfold fileP fileLs
  simp [List.flatMap_append, List.flatMap_map, nlL]
theorem step_wrt {s s' : StF} {l : List UInt8} (h : InvW s) (hs : stepF s l = some s') : InvW s' ∧ wrt s' ≤ wrt s + (l.length + 1) := by
  unfold stepF at hs
  have hcl := contentS_len l
  generalize contentP l = t at hs hcl
  obtain ⟨⟨⟨es, gs, b, sc, th⟩, st⟩, fst, n⟩ := s
  unfold stepT at hs
  split at hs
  · injection hs with hs
    subst hs
    refine ⟨h, ?_⟩
    show wrt _ ≤ _
    unfold wrt
    dsimp only
    omega
  · cases hb : baseP ⟨⟨es, gs, b, sc, th⟩, st⟩ t with
    | some r' =>
      dsimp only at hs
      rw [hb] at hs
      injection hs with hs
      subst hs
      unfold baseP at hb
      split at hb
      · cases hb
      · rename_i hcond
        cases hn : numsP ((splitL 32 t).drop 1) with
        | none => rw [hn] at hb; cases hb
        | some ns =>
          rw [hn] at hb
          injection hb with hb
          subst hb
          simp only [Bool.or_eq_true, not_or, Bool.not_eq_true'] at hcond
          obtain ⟨⟨h1, h2⟩, h3⟩ := hcond
          have h1 : st = false := by simpa using h1
          have h2 : (splitL 32 t).length = 4 := by simpa using h2
          have h3 : piece (splitL 32 t) 0 = wBase := by simpa using h3
          obtain ⟨p0, p1, p2, p3, e1, e2⟩ := four_words h2
          rw [e1] at h3 hn
          have h3 : p0 = wBase := h3
          have hk := nums_back _ hn
          have hl := numsP_length _ hn
          obtain ⟨he, hg⟩ := h h1
          dsimp only at he hg
          subst he hg
          match ns, hl with
          | [n0, n1, n2], _ =>
            simp at hk
            refine ⟨fun hh => (by cases hh), ?_⟩
            have hbl : bLine ⟨[], [], n0, n1, n2⟩ = t := by
              rw [e2, h3, ← hk.1, ← hk.2.1, ← hk.2.2]
              simp [bLine, lineP]
            have hw : wrt ⟨⟨⟨[], [], nth [n0, n1, n2] 0, nth [n0, n1, n2] 1, nth [n0, n1, n2] 2⟩, true⟩, fst, n + 1⟩ = t.length + 1 := by
              unfold wrt
              rw [if_pos rfl, fileP_len]
              show (bLine ⟨[], [], n0, n1, n2⟩).length + 1 + (0 + 0) = _
              rw [hbl]
            dsimp only
            rw [hw]
            omega
    | none =>
      dsimp only at hs
      rw [hb] at hs
      dsimp only at hs
      cases hg : groupP ⟨⟨es, gs, b, sc, th⟩, st⟩ t with
      | some r' =>
        rw [hg] at hs
        injection hs with hs
        subst hs
        unfold groupP at hg
        split at hg
        · cases hg
        · rename_i hcond
          cases hn : numsP ((splitL 32 t).drop 2) with
          | none => rw [hn] at hg; cases hg
          | some ns =>
            rw [hn] at hg
            injection hg with hg
            subst hg
            simp only [Bool.or_eq_true, not_or, Bool.not_eq_true', decide_eq_true_eq] at hcond
            obtain ⟨⟨⟨⟨h1, _⟩, h2⟩, h3⟩, _⟩ := hcond
            have h1 : st = true := by simpa using h1
            have h2 : (splitL 32 t).length = 4 := by simpa using h2
            have h3 : piece (splitL 32 t) 0 = wGroup := by simpa using h3
            obtain ⟨p0, p1, p2, p3, e1, e2⟩ := four_words h2
            rw [e1] at h3 hn
            have h3 : p0 = wGroup := h3
            have hk := nums_back _ hn
            have hl := numsP_length _ hn
            subst h1
            match ns, hl with
            | [n0, n1], _ =>
              simp at hk
              refine ⟨fun hh => (by cases hh), ?_⟩
              have hgl : gLine ⟨piece (splitL 32 t) 1, nth [n0, n1] 0, nth [n0, n1] 1⟩ = t := by
                rw [e1]
                show gLine ⟨p1, n0, n1⟩ = t
                rw [e2, h3, ← hk.1, ← hk.2]
                simp [gLine, lineP]
              unfold wrt
              rw [if_pos rfl, if_pos rfl, fileP_len, fileP_len]
              have hbl : (bLine ⟨es, gs ++ [⟨piece (splitL 32 t) 1, nth [n0, n1] 0, nth [n0, n1] 1⟩], b, sc, th⟩).length = (bLine ⟨es, gs, b, sc, th⟩).length := rfl
              dsimp only at hbl ⊢
              rw [hbl, List.flatMap_append, List.length_append]
              simp only [List.flatMap_cons, List.flatMap_nil, List.append_nil, hgl, nlL]
              omega
      | none =>
        rw [hg] at hs
        dsimp only at hs
        cases he : entryP ⟨⟨es, gs, b, sc, th⟩, st⟩ t with
        | none => rw [he] at hs; cases hs
        | some x =>
          rw [he] at hs
          injection hs with hs
          subst hs
          unfold entryP at he
          split at he
          · rename_i h1
            dsimp only at h1
            subst h1
            have hxl := entP_line_back he
            refine ⟨fun hh => (by cases hh), ?_⟩
            unfold wrt addN
            dsimp only
            rw [if_pos rfl, if_pos rfl, fileP_len, fileP_len]
            have hbl : (bLine ⟨es ++ [x], gs, b, sc, th⟩).length = (bLine ⟨es, gs, b, sc, th⟩).length := rfl
            dsimp only at hbl ⊢
            rw [hbl, List.flatMap_append, List.length_append]
            simp only [List.flatMap_cons, List.flatMap_nil, List.append_nil, hxl, nlL]
            omega
          · cases he

def sumL (ls : List (List UInt8)) : Nat := (ls.map fun l => l.length + 1).sum
theorem sum_lines : ∀ l : List UInt8, sumL (linesL l) ≤ l.length + 1
  | [] => by simp [linesL, sumL]
  | b :: r => by
    have ih := sum_lines r
    rw [linesL]
    split
    · unfold sumL at ih ⊢
      simp only [List.map_cons, List.sum_cons, List.length_nil, List.length_cons]
      omega
    · cases hr : linesL r with
      | nil => simp [sumL]
      | cons q qs =>
        rw [hr] at ih
        unfold sumL at ih ⊢
        simp only [List.map_cons, List.sum_cons, List.length_cons] at ih ⊢
        omega
theorem run_wrt : ∀ (ls : List (List UInt8)) (s : StF) (c : CollD), InvW s → runF ls s = (c, (0, 0)) → (fileP c).length ≤ wrt s + sumL ls
  | [], s, c, _, h => by
    have h : finF s = (c, (0, 0)) := h
    unfold finF at h
    split at h
    · injection h with _ h
      injection h with h
      cases h
    · rename_i h1
      split at h
      · rename_i hz
        injection h with _ h
        rw [h] at hz
        exact absurd rfl hz
      · injection h with h _
        subst h
        unfold wrt
        rw [if_pos (by simpa using h1)]
        omega
  | l :: ls, s, c, hw, h => by
    rw [runF] at h
    cases hs : stepF s l with
    | none =>
      rw [hs] at h
      injection h with _ h
      injection h with h
      cases h
    | some s' =>
      rw [hs] at h
      obtain ⟨h1, h2⟩ := step_wrt hw hs
      have ih := run_wrt ls s' c h1 h
      have e : sumL (l :: ls) = l.length + 1 + sumL ls := by simp [sumL]
      omega
/-- what is read is not longer, written again -/
theorem read_short {l : List UInt8} {c : CollD} (hl : l.length ≤ 65536) (h : parseF l = (c, (0, 0))) : (fileP c).length ≤ l.length + 1 := by
  unfold parseF at h
  rw [if_neg (by omega)] at h
  have h1 := run_wrt (linesL l) startF c (fun _ => ⟨rfl, rfl⟩) h
  have h2 := sum_lines l
  have h3 : wrt startF = 0 := rfl
  omega
end Go.Proofs.YthogkokifiibnaaGreatDoor
