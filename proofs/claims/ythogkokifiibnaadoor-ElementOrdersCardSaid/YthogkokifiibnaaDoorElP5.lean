/- Files of elements: what is written, and that it is read. Plain. -/
import Derived.Test.YthogkokifiibnaaDoorElP4
namespace Go.Proofs.YthogkokifiibnaaDoor
open Go.RowKit Go.Sort

/-- a line of words and numbers -/
def lineP (ws : List UInt8) (ns : List Int) : List UInt8 := ws ++ ns.flatMap fun n => 32 :: Lib.itoa n
def bLine (c : CollD) : List UInt8 := lineP wBase [c.base, c.second, c.third]
def gLine (g : GroupD) : List UInt8 := lineP (wGroup ++ 32 :: g.name) [g.lo, g.hi]
def eLine (e : EntryD) : List UInt8 := codesL e.codes ++ [59, 32] ++ e.els.flatMap oneE
def nl (l : List UInt8) : List UInt8 := l ++ [10]
def fileLs (c : CollD) : List (List UInt8) := bLine c :: (c.groups.map gLine ++ c.entries.map eLine)
def fileP (c : CollD) : List UInt8 := (fileLs c).flatMap nl
def negG (g : GroupD) : Bool := decide (g.lo < 0) || decide (g.hi < 0)
/-- the first error of a collation that is to be written -/
def chkF (c : CollD) : Int :=
  if c.base < 0 ∨ c.second < 0 ∨ c.third < 0 then 1
  else if c.groups.any negG then 1
  else if c.groups.any (fun g => !nameB g.name) then 6
  else if c.entries.any (fun e => !allValid e.codes) then 1
  else match c.entries.find? (fun e => chksE e.els != 0) with | some e => chksE e.els | none => 0
def fileT (c : CollD) : List UInt8 × Int := if chkF c = 0 then (fileP c, 0) else ([], chkF c)
/-- numbers are ints -/
structure WfC (c : CollD) : Prop where
  b : c.base ≤ 9223372036854775807
  s : c.second ≤ 9223372036854775807
  t : c.third ≤ 9223372036854775807
  g : ∀ x ∈ c.groups, x.lo ≤ 9223372036854775807 ∧ x.hi ≤ 9223372036854775807
/-- a collation that is written -/
structure OkC (c : CollD) : Prop where
  b : 0 ≤ c.base ∧ 0 ≤ c.second ∧ 0 ≤ c.third
  g : ∀ x ∈ c.groups, 0 ≤ x.lo ∧ 0 ≤ x.hi ∧ nameB x.name = true
  e : ∀ x ∈ c.entries, allValid x.codes = true ∧ chksE x.els = 0
theorem chkF_ok {c : CollD} (h : chkF c = 0) : OkC c := by
  unfold chkF at h
  split at h
  · cases h
  · rename_i h1
    split at h
    · cases h
    · rename_i h2
      split at h
      · cases h
      · rename_i h3
        split at h
        · cases h
        · rename_i h4
          refine ⟨by omega, fun x hx => ?_, fun x hx => ?_⟩
          · have k2 : negG x = false := by
              cases hn : negG x
              · rfl
              · exact absurd (List.any_eq_true.2 ⟨x, hx, hn⟩) h2
            have k3 : nameB x.name = true := by
              cases hn : nameB x.name
              · exact absurd (List.any_eq_true.2 ⟨x, hx, by simp [hn]⟩) h3
              · rfl
            unfold negG at k2
            simp at k2
            exact ⟨k2.1, k2.2, k3⟩
          · have k4 : allValid x.codes = true := by
              cases hn : allValid x.codes
              · exact absurd (List.any_eq_true.2 ⟨x, hx, by simp [hn]⟩) h4
              · rfl
            refine ⟨k4, ?_⟩
            cases hf : c.entries.find? (fun e => chksE e.els != 0) with
            | none =>
              have := List.find?_eq_none.1 hf x hx
              simpa using this
            | some e =>
              rw [hf] at h
              have := List.find?_some hf
              simp at this
              exact absurd h this
theorem ok_chkF {c : CollD} (h : OkC c) : chkF c = 0 := by
  unfold chkF
  rw [if_neg (by have := h.b; omega), if_neg, if_neg, if_neg]
  · rw [List.find?_eq_none.2 (fun x hx => by simp [(h.e x hx).2])]
  · intro hn
    obtain ⟨x, hx, hb⟩ := List.any_eq_true.1 hn
    simp [(h.e x hx).1] at hb
  · intro hn
    obtain ⟨x, hx, hb⟩ := List.any_eq_true.1 hn
    simp [(h.g x hx).2.2] at hb
  · intro hn
    obtain ⟨x, hx, hb⟩ := List.any_eq_true.1 hn
    have := h.g x hx
    unfold negG at hb
    simp at hb
    omega

/-- all the lines are read, one by one -/
def stepsF : List (List UInt8) → StF → Option StF
  | [], s => some s
  | l :: ls, s => match stepF s l with | none => none | some s' => stepsF ls s'
theorem stepsF_app : ∀ (a b : List (List UInt8)) (s s' : StF), stepsF a s = some s' → stepsF (a ++ b) s = stepsF b s'
  | [], b, s, s', h => by simp [stepsF] at h; subst h; rfl
  | l :: a, b, s, s', h => by
    rw [List.cons_append, stepsF]
    rw [stepsF] at h
    cases hl : stepF s l with
    | none => rw [hl] at h; cases h
    | some s1 =>
      rw [hl] at h
      exact stepsF_app a b s1 s' h
theorem runF_app : ∀ (a b : List (List UInt8)) (s s' : StF), stepsF a s = some s' → runF (a ++ b) s = runF b s'
  | [], b, s, s', h => by simp [stepsF] at h; subst h; rfl
  | l :: a, b, s, s', h => by
    rw [List.cons_append, runF]
    rw [stepsF] at h
    cases hl : stepF s l with
    | none => rw [hl] at h; cases h
    | some s1 =>
      rw [hl] at h
      exact runF_app a b s1 s' h
theorem cutB_app {c : UInt8} : ∀ {a : List UInt8} (_ : c ∉ a) (r : List UInt8), cutB c (a ++ c :: r) = some (a, r)
  | [], _, r => by rw [List.nil_append, cutB, if_pos rfl]
  | b :: a, h, r => by
    have hb : ¬ b = c := fun e => h (by simp [e])
    rw [List.cons_append, cutB, if_neg hb, cutB_app (fun hm => h (by simp [hm])) r]
    rfl
theorem linesL_nl : ∀ (ls : List (List UInt8)) (r : List UInt8), (∀ l ∈ ls, (10 : UInt8) ∉ l) → linesL (ls.flatMap nl ++ r) = ls ++ linesL r
  | [], r, _ => rfl
  | l :: ls, r, h => by
    have e : (l :: ls).flatMap nl ++ r = l ++ 10 :: (ls.flatMap nl ++ r) := by simp [nl]
    rw [e, linesL_cut _ (cutB_app (h l (by simp)) _), linesL_nl ls r (fun x hx => h x (by simp [hx]))]
    rfl
theorem content_none {l : List UInt8} (h : (35 : UInt8) ∉ l) : contentP l = l := by
  unfold contentP
  rw [cutB_none.2 h]

theorem itoa_not {n : Int} (h : 0 ≤ n) {x : UInt8} (hx : x.toNat < 48) : x ∉ Lib.itoa n := fun hm => by
  have := itoa_digit h x hm
  omega
theorem name_bytes {l : List UInt8} (h : nameB l = true) : ∀ b ∈ l, 48 ≤ b.toNat := by
  unfold nameB at h
  simp only [Bool.and_eq_true] at h
  intro b hb
  have := List.all_eq_true.1 h.1.1 b hb
  unfold wordZ at this
  simp at this
  omega
theorem name_not {l : List UInt8} (h : nameB l = true) {x : UInt8} (hx : x.toNat < 48) : x ∉ l := fun hm => by
  have := name_bytes h x hm
  omega
theorem split_base {a b c : Int} (ha : 0 ≤ a) (hb : 0 ≤ b) (hc : 0 ≤ c) : splitL 32 (lineP wBase [a, b, c]) = [wBase, Lib.itoa a, Lib.itoa b, Lib.itoa c] := by
  have e : lineP wBase [a, b, c] = wBase ++ 32 :: (Lib.itoa a ++ 32 :: (Lib.itoa b ++ 32 :: Lib.itoa c)) := by simp [lineP]
  rw [e, splitL_app (by decide), splitL_app (itoa_not ha (by decide)), splitL_app (itoa_not hb (by decide)), splitL_none (itoa_not hc (by decide))]
theorem split_group {n : List UInt8} (hn : nameB n = true) {a b : Int} (ha : 0 ≤ a) (hb : 0 ≤ b) : splitL 32 (gLine ⟨n, a, b⟩) = [wGroup, n, Lib.itoa a, Lib.itoa b] := by
  have e : gLine ⟨n, a, b⟩ = wGroup ++ 32 :: (n ++ 32 :: (Lib.itoa a ++ 32 :: Lib.itoa b)) := by simp [gLine, lineP]
  rw [e, splitL_app (by decide), splitL_app (name_not hn (by decide)), splitL_app (itoa_not ha (by decide)), splitL_none (itoa_not hb (by decide))]
theorem line_not {ws : List UInt8} {ns : List Int} (hn : ∀ n ∈ ns, 0 ≤ n) {x : UInt8} (hx : x.toNat < 48) (h32 : x ≠ 32) (hw : x ∉ ws) : x ∉ lineP ws ns := by
  unfold lineP
  intro hm
  rcases List.mem_append.1 hm with hm | hm
  · exact hw hm
  · obtain ⟨n, h1, h2⟩ := List.mem_flatMap.1 hm
    rcases List.mem_cons.1 h2 with h2 | h2
    · exact h32 h2
    · exact itoa_not (hn n h1) hx h2
theorem gLine_not {g : GroupD} (h0 : 0 ≤ g.lo) (h1 : 0 ≤ g.hi) (hn : nameB g.name = true) {x : UInt8} (hx : x.toNat < 48) (h32 : x ≠ 32) : x ∉ gLine g := by
  refine line_not (fun n hn => by simp at hn; rcases hn with rfl | rfl <;> assumption) hx h32 (fun hm => ?_)
  rcases List.mem_append.1 hm with hm | hm
  · have : ∀ y ∈ wGroup, 48 ≤ y.toNat := by decide
    have := this x hm
    omega
  · rcases List.mem_cons.1 hm with hm | hm
    · exact h32 hm
    · exact name_not hn hx hm
theorem bLine_not {c : CollD} (h : OkC c) {x : UInt8} (hx : x.toNat < 48) (h32 : x ≠ 32) : x ∉ bLine c := by
  have hb := h.b
  refine line_not (fun n hn => by simp at hn; rcases hn with rfl | rfl | rfl <;> omega) hx h32 (fun hm => ?_)
  have : ∀ y ∈ wBase, 48 ≤ y.toNat := by decide
  have := this x hm
  omega
theorem joinL_mem : ∀ (ps : List (List UInt8)) {x : UInt8}, x ∈ joinL ps → x = 32 ∨ ∃ p ∈ ps, x ∈ p
  | [], x, h => by cases h
  | [p], x, h => .inr ⟨p, by simp, h⟩
  | p :: q :: r, x, h => by
    rw [joinL] at h
    rcases List.mem_append.1 h with h | h
    · exact .inr ⟨p, by simp, h⟩
    · rcases List.mem_cons.1 h with h | h
      · exact .inl h
      · rcases joinL_mem (q :: r) h with h | ⟨p', h1, h2⟩
        · exact .inl h
        · exact .inr ⟨p', by simp at h1 ⊢; right; exact h1, h2⟩
/-- the bytes of codes: a blank, or a digit -/
theorem codesL_bytes (t : List Int) : ∀ x ∈ codesL t, x = 32 ∨ ∃ k, k < 16 ∧ x.toNat = hexC k := by
  intro x hx
  rcases joinL_mem _ hx with h | ⟨p, h1, h2⟩
  · exact .inl h
  · obtain ⟨c, _, rfl⟩ := List.mem_map.1 h1
    exact .inr (hexDigit_L c x h2)
theorem oneE_bytes (d : ElemD) : ∀ x ∈ oneE d, x.toNat = 91 ∨ x.toNat = 93 ∨ x.toNat = 42 ∨ x.toNat = 46 ∨ ∃ k, k < 16 ∧ x.toNat = hexC k := by
  intro x hx
  have key : ∀ n : Int, x ∈ hex4 n → ∃ k, k < 16 ∧ x.toNat = hexC k := fun n h => hexN_digit 4 _ x h
  unfold oneE at hx
  simp only [List.mem_append, List.mem_cons, List.not_mem_nil, or_false] at hx
  have hs : signE d = 42 ∨ signE d = 46 := by unfold signE; split <;> simp
  rcases hx with ((((((hx | hx) | hx) | hx) | hx) | hx) | hx) | hx
  · subst hx; simp
  · rcases hs with hs | hs <;> rw [hx, hs] <;> simp
  · exact .inr (.inr (.inr (.inr (key _ hx))))
  · subst hx; simp
  · exact .inr (.inr (.inr (.inr (key _ hx))))
  · subst hx; simp
  · exact .inr (.inr (.inr (.inr (key _ hx))))
  · subst hx; simp
theorem eLine_not (e : EntryD) {x : UInt8} (hx : x = 10 ∨ x = 35) : x ∉ eLine e := by
  have hv : x.toNat = 10 ∨ x.toNat = 35 := by rcases hx with rfl | rfl <;> simp
  unfold eLine
  intro hm
  rcases List.mem_append.1 hm with hm | hm
  · rcases List.mem_append.1 hm with hm | hm
    · rcases codesL_bytes _ x hm with h | ⟨k, hk, h⟩
      · subst h
        revert hv
        decide
      · have := hexC_le k hk
        omega
    · simp at hm
      rcases hm with rfl | rfl <;> revert hv <;> decide
  · obtain ⟨d, _, h2⟩ := List.mem_flatMap.1 hm
    rcases oneE_bytes d x h2 with h | h | h | h | ⟨k, hk, h⟩
    · omega
    · omega
    · omega
    · omega
    · have := hexC_le k hk
      omega
theorem codesL_59 (t : List Int) : (59 : UInt8) ∉ codesL t := by
  intro hm
  rcases codesL_bytes t 59 hm with h | ⟨k, hk, h⟩
  · revert h
    decide
  · have := hexC_is k
    have e : (59 : UInt8).toNat = 59 := rfl
    omega
theorem index_semi : ∀ (x y : List UInt8), (59 : UInt8) ∉ x → Lib.index (x ++ 59 :: 32 :: y) [59, 32] = (x.length : Int)
  | [], y, _ => by
    rw [List.nil_append, Lib.index, if_pos (by simp [List.isPrefixOf])]
    rfl
  | b :: x, y, h => by
    have hb : ¬ b = 59 := fun e => h (by simp [e])
    rw [List.cons_append, Lib.index, if_neg (by simp [List.isPrefixOf]; intro e; exact absurd e.symm hb), index_semi x y (fun hm => h (by simp [hm]))]
    have h1 : (((x.length : Int)) == -1) = false := by simp
    rw [h1]
    simp
theorem cut_semi {x y : List UInt8} (h : (59 : UInt8) ∉ x) : Lib.cut (x ++ [59, 32] ++ y) [59, 32] = (x, y, true) := by
  have e : x ++ [59, 32] ++ y = x ++ 59 :: 32 :: y := by simp
  rw [e]
  unfold Lib.cut
  rw [index_semi x y h, if_pos (by omega)]
  have e2 : ((x.length : Int)).toNat = x.length := by simp
  rw [e2, List.take_left' rfl]
  congr 2
  rw [show x.length + [(59 : UInt8), 32].length = x.length + 2 from rfl, ← List.drop_drop, List.drop_left' rfl]
  rfl
theorem entP_line {e : EntryD} (h1 : allValid e.codes = true) (h2 : chksE e.els = 0) : entP (eLine e) = some e := by
  unfold entP eLine
  rw [cut_semi (codesL_59 _)]
  dsimp only
  rw [if_neg (by simp), back_codes h1, if_neg (by simp), readE_flat _ (fun d hd => chkE_inW (chksE_mem h2 hd))]
  rfl
theorem head_group {l : List UInt8} (h : l.head? ≠ some 64) : ¬ piece (splitL 32 l) 0 = wGroup := by
  intro e
  rw [splitL_cut] at e
  cases hc : cutB 32 l with
  | none =>
    rw [hc] at e
    have e : l = wGroup := e
    rw [e] at h
    exact h rfl
  | some p =>
    obtain ⟨a, r⟩ := p
    rw [hc] at e
    have e : a = wGroup := e
    obtain ⟨e2, _⟩ := cutB_some hc
    rw [e2, e] at h
    exact h rfl
theorem eLine_head (e : EntryD) : (eLine e).head? ≠ some 64 ∧ eLine e ≠ [] := by
  refine ⟨?_, by simp [eLine]⟩
  unfold eLine
  cases hc : codesL e.codes with
  | nil => simp
  | cons b r =>
    intro h
    simp at h
    have := codesL_bytes e.codes b (by rw [hc]; simp)
    rcases this with h' | ⟨k, hk, h'⟩
    · rw [h] at h'
      revert h'
      decide
    · rw [h] at h'
      have := hexC_is k
      have e : (64 : UInt8).toNat = 64 := rfl
      omega
theorem step_base {c : CollD} (h : OkC c) (hw : WfC c) (n : Nat) (f : Int × Int) : stepF ⟨⟨zeroC, false⟩, f, n⟩ (bLine c) = some ⟨⟨⟨[], [], c.base, c.second, c.third⟩, true⟩, f, n + 1⟩ := by
  have hb := h.b
  have e1 : bLine c ≠ [] := by simp [bLine, lineP, wBase]
  have hs := split_base hb.1 hb.2.1 hb.2.2
  unfold stepF
  rw [content_none (bLine_not h (by decide) (by decide))]
  unfold stepT
  rw [if_neg e1]
  have hp : baseP ⟨zeroC, false⟩ (bLine c) = some ⟨⟨[], [], c.base, c.second, c.third⟩, true⟩ := by
    unfold baseP bLine
    rw [hs]
    simp [piece, numsP, numP_itoa hb.1 hw.b, numP_itoa hb.2.1 hw.s, numP_itoa hb.2.2 hw.t, zeroC, nth]
  dsimp only
  rw [hp]
theorem step_group {g : GroupD} (h0 : 0 ≤ g.lo) (h1 : 0 ≤ g.hi) (hn : nameB g.name = true) (h2 : g.lo ≤ 9223372036854775807) (h3 : g.hi ≤ 9223372036854775807) (gs : List GroupD) (b s t : Int) (n : Nat) (f : Int × Int) :
    stepF ⟨⟨⟨[], gs, b, s, t⟩, true⟩, f, n⟩ (gLine g) = some ⟨⟨⟨[], gs ++ [g], b, s, t⟩, true⟩, f, n + 1⟩ := by
  have e1 : gLine g ≠ [] := by simp [gLine, lineP, wGroup]
  have hs : splitL 32 (gLine g) = [wGroup, g.name, Lib.itoa g.lo, Lib.itoa g.hi] := split_group hn h0 h1
  unfold stepF
  rw [content_none (gLine_not h0 h1 hn (by decide) (by decide))]
  unfold stepT
  rw [if_neg e1]
  have hp : baseP ⟨⟨[], gs, b, s, t⟩, true⟩ (gLine g) = none := by simp [baseP]
  have hg : groupP ⟨⟨[], gs, b, s, t⟩, true⟩ (gLine g) = some ⟨⟨[], gs ++ [g], b, s, t⟩, true⟩ := by
    unfold groupP
    rw [hs]
    simp [piece, numsP, numP_itoa h0 h2, numP_itoa h1 h3, nth, hn]
  dsimp only
  rw [hp]
  dsimp only
  rw [hg]
theorem step_entry {e : EntryD} (h1 : allValid e.codes = true) (h2 : chksE e.els = 0) (c : CollD) (n : Nat) (f : Int × Int) :
    stepF ⟨⟨c, true⟩, f, n⟩ (eLine e) = some ⟨addN ⟨c, true⟩ e, f, n + 1⟩ := by
  obtain ⟨e0, e1⟩ := eLine_head e
  unfold stepF
  rw [content_none (eLine_not e (.inr rfl))]
  unfold stepT
  rw [if_neg e1]
  have hp : baseP ⟨c, true⟩ (eLine e) = none := by simp [baseP]
  have hg : groupP ⟨c, true⟩ (eLine e) = none := by
    unfold groupP
    rw [decide_eq_false (head_group e0)]
    simp
  have he : entryP ⟨c, true⟩ (eLine e) = some e := by
    unfold entryP
    rw [if_pos rfl, entP_line h1 h2]
  dsimp only
  rw [hp]
  dsimp only
  rw [hg]
  dsimp only
  rw [he]
  dsimp only
  rw [if_neg (by simp [h2])]
theorem steps_groups (b s t : Int) (f : Int × Int) : ∀ (xs gs : List GroupD) (n : Nat), (∀ x ∈ xs, 0 ≤ x.lo ∧ 0 ≤ x.hi ∧ nameB x.name = true) → (∀ x ∈ xs, x.lo ≤ 9223372036854775807 ∧ x.hi ≤ 9223372036854775807) →
    stepsF (xs.map gLine) ⟨⟨⟨[], gs, b, s, t⟩, true⟩, f, n⟩ = some ⟨⟨⟨[], gs ++ xs, b, s, t⟩, true⟩, f, n + xs.length⟩
  | [], gs, n, _, _ => by simp [stepsF]
  | x :: xs, gs, n, h, hw => by
    obtain ⟨h0, h1, h2⟩ := h x (by simp)
    obtain ⟨w0, w1⟩ := hw x (by simp)
    rw [List.map_cons, stepsF, step_group h0 h1 h2 w0 w1]
    dsimp only
    rw [steps_groups b s t f xs (gs ++ [x]) (n + 1) (fun y hy => h y (by simp [hy])) (fun y hy => hw y (by simp [hy]))]
    simp
    omega
theorem steps_entries (f : Int × Int) : ∀ (xs : List EntryD) (es : List EntryD) (gs : List GroupD) (b s t : Int) (n : Nat), (∀ x ∈ xs, allValid x.codes = true ∧ chksE x.els = 0) →
    stepsF (xs.map eLine) ⟨⟨⟨es, gs, b, s, t⟩, true⟩, f, n⟩ = some ⟨⟨⟨es ++ xs, gs, b, s, t⟩, true⟩, f, n + xs.length⟩
  | [], es, gs, b, s, t, n, _ => by simp [stepsF]
  | x :: xs, es, gs, b, s, t, n, h => by
    obtain ⟨h0, h1⟩ := h x (by simp)
    rw [List.map_cons, stepsF, step_entry h0 h1]
    dsimp only [addN]
    rw [steps_entries f xs (es ++ [x]) gs b s t (n + 1) (fun y hy => h y (by simp [hy]))]
    simp
    omega
/-- the lines of a collation are read as that collation, whatever the number of the line and the first error were -/
theorem steps_file {c : CollD} (h : OkC c) (hw : WfC c) (f : Int × Int) (n : Nat) : stepsF (fileLs c) ⟨⟨zeroC, false⟩, f, n⟩ = some ⟨⟨c, true⟩, f, n + 1 + c.groups.length + c.entries.length⟩ := by
  unfold fileLs
  rw [stepsF, step_base h hw]
  dsimp only
  rw [stepsF_app _ _ _ _ (steps_groups _ _ _ _ c.groups [] (n + 1) h.g hw.g), List.nil_append, steps_entries _ c.entries [] _ _ _ _ _ h.e]
  simp
theorem fileLs_10 {c : CollD} (h : OkC c) : ∀ l ∈ fileLs c, (10 : UInt8) ∉ l := by
  intro l hl
  unfold fileLs at hl
  rcases List.mem_cons.1 hl with rfl | hl
  · exact bLine_not h (by decide) (by decide)
  · rcases List.mem_append.1 hl with hl | hl
    · obtain ⟨g, hg, rfl⟩ := List.mem_map.1 hl
      obtain ⟨h0, h1, h2⟩ := h.g g hg
      exact gLine_not h0 h1 h2 (by decide) (by decide)
    · obtain ⟨e, _, rfl⟩ := List.mem_map.1 hl
      exact eLine_not e (.inl rfl)
/-- a file and something behind it -/
theorem run_file {c : CollD} (h : OkC c) (hw : WfC c) (r : List UInt8) : runF (linesL (fileP c ++ r)) startF = runF (linesL r) ⟨⟨c, true⟩, (0, 0), 1 + c.groups.length + c.entries.length⟩ := by
  unfold fileP startF
  rw [linesL_nl _ _ (fileLs_10 h), runF_app _ _ _ _ (steps_file h hw (0, 0) 0), Nat.zero_add]
end Go.Proofs.YthogkokifiibnaaDoor
