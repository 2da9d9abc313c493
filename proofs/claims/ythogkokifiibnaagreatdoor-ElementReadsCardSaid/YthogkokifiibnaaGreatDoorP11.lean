/- What the reference reads: plain. -/
import Derived.Test.YthogkokifiibnaaGreatDoorP8
namespace Go.Proofs.YthogkokifiibnaaGreatDoor
open Go.RowKit Go.Sort

/-- the number of digits -/
def digV (acc : Nat) (l : List UInt8) : Nat := l.foldl (fun n b => 10 * n + (b.toNat - 48)) acc
theorem dv_nil (acc : Nat) : digV acc [] = acc := rfl
theorem dv_cons (acc : Nat) (b : UInt8) (l : List UInt8) : digV acc (b :: l) = digV (10 * acc + (b.toNat - 48)) l := by simp only [digV, List.foldl_cons]
theorem dv_app (a b : List UInt8) (acc : Nat) : digV acc (a ++ b) = digV (digV acc a) b := List.foldl_append
theorem dv_ge : ∀ (l : List UInt8) (acc : Nat), acc ≤ digV acc l
  | [], acc => Nat.le_refl _
  | x :: l, acc => by have := dv_ge l (10 * acc + (x.toNat - 48)); rw [dv_cons]; omega
theorem dv_dec (u : Nat) : digV 0 (Lib.decDigits u) = u := by
  induction u using Nat.strongRecOn with
  | _ u ih =>
    by_cases h : u < 10
    · rw [Lib.decDigits_one h, dv_cons, dv_nil, UInt8.toNat_ofNat']
      omega
    · rw [Lib.decDigits, dif_neg h, dv_app, ih (u / 10) (by omega), dv_cons, dv_nil, UInt8.toNat_ofNat']
      omega
theorem dv_snoc {l : List UInt8} {k : Nat} (h : k < l.length) : digV 0 (l.take (k + 1)) = 10 * digV 0 (l.take k) + (btN l k - 48) := by
  rw [List.take_succ_eq_append_getElem h, dv_app, dv_cons, dv_nil, btN_get h]
theorem num_digit {l : List UInt8} {v : Int} (h : numP l = some v) : (∀ b ∈ l, 48 ≤ b.toNat ∧ b.toNat ≤ 57) ∧ digV 0 l = v.toNat ∧ 0 ≤ v ∧ v ≤ 9223372036854775807 ∧ l ≠ [] := by
  obtain ⟨h0, h1, rfl⟩ := numP_back h
  refine ⟨itoa_digit h0, ?_, h0, h1, ?_⟩
  · rw [itoa_dec h0, dv_dec]
  · rw [itoa_dec h0]
    exact dec_ne _
theorem num_bad {l : List UInt8} {k : Nat} (h : k < l.length) (hd : btN l k < 48 ∨ 57 < btN l k) : numP l = none := by
  cases hn : numP l with
  | none => rfl
  | some v =>
    have := (num_digit hn).1 _ (List.getElem_mem h)
    rw [btN_get h] at hd
    omega
theorem num_over {l : List UInt8} {k : Nat} (h : k < l.length) (hd : 9223372036854775807 < 10 * digV 0 (l.take k) + (btN l k - 48)) : numP l = none := by
  cases hn : numP l with
  | none => rfl
  | some v =>
    obtain ⟨_, h2, h3, h4, _⟩ := num_digit hn
    have e := dv_app (l.take (k + 1)) (l.drop (k + 1)) 0
    rw [List.take_append_drop, dv_snoc h] at e
    have := dv_ge (l.drop (k + 1)) (10 * digV 0 (l.take k) + (btN l k - 48))
    omega
theorem num_end (l : List UInt8) (h : digV 0 l ≤ 9223372036854775807) : numP l = if Lib.itoa (digV 0 l : Int) = l then some (digV 0 l : Int) else none := by
  split
  · rename_i he
    have := numP_itoa (n := (digV 0 l : Int)) (by omega) (by omega)
    rwa [he] at this
  · rename_i he
    cases hn : numP l with
    | none => rfl
    | some v =>
      obtain ⟨h1, h2, h3, h4, _⟩ := num_digit hn
      have hb := (numP_back hn).2.2
      exact absurd (by rw [h2, Int.toNat_of_nonneg h3]; exact hb) he
theorem num_nil : numP [] = none := by
  cases hn : numP [] with
  | none => rfl
  | some v => exact absurd rfl (num_digit hn).2.2.2.2

theorem content_hit {l : List UInt8} {k : Nat} (h : k < l.length) (hk : (35 : UInt8) ∉ l.take k) (hb : btN l k = 35) : contentP l = Lib.trimRightB (seg l 0 k) 32 := by
  have e : l = l.take k ++ 35 :: l.drop (k + 1) := by
    have h1 := List.take_append_drop k l
    rw [List.drop_eq_getElem_cons h] at h1
    have h2 : l[k] = 35 := by
      rw [btN_get h] at hb
      exact UInt8.toNat_inj.1 hb
    rw [h2] at h1
    exact h1.symm
  have hs : seg l 0 k = l.take k := by unfold seg; rw [List.drop_zero, Nat.sub_zero]
  have hc := cutB_app hk (l.drop (k + 1))
  rw [← e] at hc
  unfold contentP
  rw [hs, hc]
theorem content_step {l : List UInt8} {k : Nat} (h : k < l.length) (hk : (35 : UInt8) ∉ l.take k) (hb : ¬ btN l k = 35) : (35 : UInt8) ∉ l.take (k + 1) := by
  intro hm
  rw [List.take_succ_eq_append_getElem h] at hm
  rcases List.mem_append.1 hm with hm | hm
  · exact hk hm
  · simp at hm
    exact hb (by rw [btN_get h, ← hm]; rfl)
theorem seg_zero (l : List UInt8) (k : Nat) : seg l 0 k = l.take k := by unfold seg; rw [List.drop_zero, Nat.sub_zero]
theorem trim_drop {x : List UInt8} (h : 0 < x.length) (hl : btN x (x.length - 1) = 32) : Lib.trimRightB x 32 = Lib.trimRightB (seg x 0 (x.length - 1)) 32 := by
  have hx : x ≠ [] := fun e => by subst e; simp at h
  obtain ⟨y, b, rfl⟩ : ∃ y b, x = y ++ [b] := ⟨x.dropLast, x.getLast hx, (List.dropLast_concat_getLast hx).symm⟩
  rw [seg_zero]
  simp only [List.length_append, List.length_cons, List.length_nil, Nat.zero_add, Nat.add_sub_cancel] at hl ⊢
  have hb : b = 32 := by
    unfold btN at hl
    simp at hl
    exact UInt8.toNat_inj.1 hl
  subst hb
  rw [List.take_left' rfl]
  unfold Lib.trimRightB
  rw [List.reverse_append]
  rfl
theorem trim_stop {x : List UInt8} (h : 0 < x.length → ¬ btN x (x.length - 1) = 32) : Lib.trimRightB x 32 = x := by
  by_cases hx : x = []
  · subst hx
    rfl
  · obtain ⟨y, b, rfl⟩ : ∃ y b, x = y ++ [b] := ⟨x.dropLast, x.getLast hx, (List.dropLast_concat_getLast hx).symm⟩
    have hl := h (by simp)
    simp only [List.length_append, List.length_cons, List.length_nil, Nat.zero_add, Nat.add_sub_cancel] at hl
    have hb : (b == 32) = false := by
      unfold btN at hl
      simp at hl
      simp
      intro e
      exact hl (by rw [e]; rfl)
    unfold Lib.trimRightB
    rw [List.reverse_append, List.reverse_cons, List.reverse_nil, List.nil_append, List.singleton_append, List.dropWhile_cons, hb]
    simp

/-- the words of the line of the base, of a group -/
def baseW (l : List UInt8) : Option (Int × Int × Int) :=
  if !decide ((splitL 32 l).length = 4) || !decide (piece (splitL 32 l) 0 = wBase) then none
  else match numP (piece (splitL 32 l) 1), numP (piece (splitL 32 l) 2), numP (piece (splitL 32 l) 3) with
    | some a, some b, some c => some (a, b, c)
    | _, _, _ => none
def groupW (l : List UInt8) : Option GroupD :=
  if !decide ((splitL 32 l).length = 4) || !decide (piece (splitL 32 l) 0 = wGroup) || !nameB (piece (splitL 32 l) 1) then none
  else match numP (piece (splitL 32 l) 2), numP (piece (splitL 32 l) 3) with
    | some a, some b => some ⟨piece (splitL 32 l) 1, a, b⟩
    | _, _ => none
theorem baseP_W (r : RdD) (l : List UInt8) (h : r.started = false) : baseP r l = (baseW l).map fun q => ⟨⟨r.c.entries, r.c.groups, q.1, q.2.1, q.2.2⟩, true⟩ := by
  unfold baseP baseW
  rw [h, Bool.false_or]
  by_cases h4 : (splitL 32 l).length = 4
  · obtain ⟨p0, p1, p2, p3, e1, _⟩ := four_words h4
    rw [e1]
    split
    · rfl
    · show (match numsP [p1, p2, p3] with | some ns => _ | none => _) = Option.map _ (match numP p1, numP p2, numP p3 with | some a, some b, some c => some (a, b, c) | _, _, _ => none)
      simp only [numsP]
      cases numP p1 <;> cases numP p2 <;> cases numP p3 <;> simp [nth]
  · simp [h4]
theorem groupP_W (r : RdD) (l : List UInt8) (h : r.started = true) (he : r.c.entries = []) : groupP r l = (groupW l).map fun g => ⟨⟨r.c.entries, r.c.groups ++ [g], r.c.base, r.c.second, r.c.third⟩, r.started⟩ := by
  unfold groupP groupW
  rw [h, he]
  simp only [List.length_nil, Nat.lt_irrefl, decide_false, Bool.not_true, Bool.false_or]
  by_cases h4 : (splitL 32 l).length = 4
  · obtain ⟨p0, p1, p2, p3, e1, _⟩ := four_words h4
    rw [e1]
    split
    · rfl
    · show (match numsP [p2, p3] with | some ns => _ | none => _) = Option.map _ (match numP p2, numP p3 with | some a, some b => some (GroupD.mk p1 a b) | _, _ => none)
      simp only [numsP]
      cases numP p2 <;> cases numP p3 <;> simp [nth, piece]
  · simp [h4]

/-- an index, k places on -/
def shI (k : Nat) (n : Int) : Int := if n = -1 then -1 else n + k
theorem semi_hit {l : List UInt8} {k : Nat} (h : k + 1 < l.length) (h1 : btN l k = 59) (h2 : btN l (k + 1) = 32) : Lib.index (l.drop k) [59, 32] = 0 := by
  rw [List.drop_eq_getElem_cons (by omega), List.drop_eq_getElem_cons h]
  have e1 : l[k] = 59 := by rw [btN_get (by omega)] at h1; exact UInt8.toNat_inj.1 h1
  have e2 : l[k + 1] = 32 := by rw [btN_get h] at h2; exact UInt8.toNat_inj.1 h2
  rw [e1, e2, Lib.index]
  simp
theorem semi_miss {l : List UInt8} {k : Nat} (h : k + 1 < l.length) (hm : ¬ (btN l k = 59 ∧ btN l (k + 1) = 32)) : Lib.index (l.drop k) [59, 32] = shI 1 (Lib.index (l.drop (k + 1)) [59, 32]) := by
  have hp : ([59, 32] : List UInt8).isPrefixOf (l.drop k) = false := by
    rw [List.drop_eq_getElem_cons (by omega), List.drop_eq_getElem_cons h]
    rw [btN_get (by omega), btN_get h] at hm
    rw [← Bool.not_eq_true]
    intro hq
    simp only [List.isPrefixOf, Bool.and_true, Bool.and_eq_true, beq_iff_eq] at hq
    exact hm ⟨by rw [← hq.1]; rfl, by rw [← hq.2]; rfl⟩
  rw [List.drop_eq_getElem_cons (show k < l.length by omega)] at hp ⊢
  rw [Lib.index, hp]
  simp [shI]
theorem semi_end {l : List UInt8} {k : Nat} (h : l.length ≤ k + 1) : Lib.index (l.drop k) [59, 32] = -1 := by
  have hl : (l.drop k).length ≤ 1 := by simp; omega
  match l.drop k, hl with
  | [], _ => rfl
  | [b], _ => simp [Lib.index]
theorem shI_shI (k : Nat) (n : Int) (hn : -1 ≤ n) : shI k (shI 1 n) = shI (k + 1) n := by
  unfold shI
  by_cases h : n = -1
  · simp [h]
  · rw [if_neg h, if_neg h, if_neg (by omega)]
    omega
theorem cut_hit {l : List UInt8} {k : Nat} (h : Lib.index l [59, 32] = (k : Int)) : Lib.cut l [59, 32] = (l.take k, l.drop (k + 2), true) := by
  unfold Lib.cut
  rw [h, if_pos (by omega)]
  simp
theorem cut_miss {l : List UInt8} (h : Lib.index l [59, 32] = -1) : Lib.cut l [59, 32] = (l, [], false) := by
  unfold Lib.cut
  rw [h, if_neg (by omega)]

/-- the first error of entries with the numbers of their lines -/
def fstOf (zs : List (EntryD × Int)) : Int × Int := match zs.find? (fun z => chksE z.1.els != 0) with | some z => (chksE z.1.els, z.2) | none => (0, 0)
theorem fstOf_snoc (zs : List (EntryD × Int)) (e : EntryD) (n : Int) : fstOf (zs ++ [(e, n)]) = if chksE e.els ≠ 0 ∧ (fstOf zs).1 = 0 then (chksE e.els, n) else fstOf zs := by
  unfold fstOf
  rw [List.find?_append]
  cases hf : zs.find? (fun z => chksE z.1.els != 0) with
  | some z =>
    have := List.find?_some hf
    have hz : chksE z.1.els ≠ 0 := by simpa using this
    simp [hz]
  | none =>
    by_cases h : chksE e.els = 0
    · simp [h]
    · simp [h]
theorem fstOf_at {zs : List (EntryD × Int)} {k : Nat} {z : EntryD × Int} (h : zs[k]? = some z) (hk : (zs.take k).all (fun z => chksE z.1.els == 0) = true) (hd : ¬ chksE z.1.els = 0) : fstOf zs = (chksE z.1.els, z.2) := by
  have hlt : k < zs.length := (List.getElem?_eq_some_iff.1 h).1
  have e : zs = zs.take k ++ z :: zs.drop (k + 1) := by
    have := List.take_append_drop k zs
    rw [List.drop_eq_getElem_cons hlt, (List.getElem?_eq_some_iff.1 h).2] at this
    exact this.symm
  have hf : zs.find? (fun z => chksE z.1.els != 0) = some z := by
    rw [e, List.find?_append, List.find?_eq_none.2 (fun x hx => by have := List.all_eq_true.1 hk x hx; simp at this; simp [this]), List.find?_cons, show (chksE z.1.els != 0) = true by simp [hd]]
    rfl
  unfold fstOf
  rw [hf]
theorem fstOf_none {zs : List (EntryD × Int)} (hk : zs.all (fun z => chksE z.1.els == 0) = true) : fstOf zs = (0, 0) := by
  unfold fstOf
  rw [List.find?_eq_none.2 (fun x hx => by have := List.all_eq_true.1 hk x hx; simp at this; simp [this])]

theorem head_at {t : List UInt8} (h : 0 < t.length) : (t.head? = some 64) ↔ btN t 0 = 64 := by
  cases t with
  | nil => simp at h
  | cons b r =>
    unfold btN
    simp
    constructor
    · intro e
      rw [e]
      rfl
    · intro e
      exact UInt8.toNat_inj.1 e
/-- no entry begins with @ -/
theorem ent_at {t : List UInt8} (h : t.head? = some 64) : entP t = none := by
  cases t with
  | nil => cases h
  | cons b r =>
    simp at h
    subst h
    unfold entP
    split
    · rfl
    · rename_i hc
      rw [if_pos]
      have hidx : Lib.index (64 :: r) [59, 32] ≠ 0 := by
        rw [Lib.index]
        have hp : ([59, 32] : List UInt8).isPrefixOf (64 :: r) = false := by
          rfl
        rw [hp]
        have := Lib.index_ge r [59, 32]
        simp
        omega
      have h0 : 0 ≤ Lib.index (64 :: r) [59, 32] := by
        refine Classical.byContradiction fun hn => hc ?_
        unfold Lib.cut
        rw [if_neg hn]
      have hk : ∃ m, (Lib.index (64 :: r) [59, 32]).toNat = m + 1 := ⟨(Lib.index (64 :: r) [59, 32]).toNat - 1, by omega⟩
      obtain ⟨m, hm⟩ := hk
      have hl : (Lib.cut (64 :: r) [59, 32]).1 = 64 :: r.take m := by
        unfold Lib.cut
        rw [if_pos h0]
        dsimp only
        rw [hm, List.take_succ_cons]
      rw [hl]
      unfold parseCodesR
      rw [if_neg (by simp)]
      have hs : ∃ p ps, splitL 32 (64 :: r.take m) = (64 :: p) :: ps := by
        rw [splitL_miss (by decide)]
        cases splitL 32 (r.take m) with
        | nil => exact ⟨[], [], rfl⟩
        | cons p ps => exact ⟨p, ps, rfl⟩
      obtain ⟨p, ps, hs⟩ := hs
      rw [hs, codesFrom]
      have hp : parseCp (64 :: p) = none := by
        cases hq : parseCp (64 :: p) with
        | none => rfl
        | some c =>
          have := (parseCp_hex hq).1
          have hd := hexDigit_L c 64 (by rw [this]; simp)
          obtain ⟨k, hk, e⟩ := hd
          have e : (64 : Nat) = hexC k := e
          have := hexC_is k
          omega
      rw [hp]
      exact (by decide : ¬ (3 : Int) = 0)

/-- a line that is not empty, by the three ways of the reference -/
theorem stepT_base {s : StF} {t : List UInt8} (h : s.r.started = false) (ht : t ≠ []) : stepT s t = (baseW t).map fun q => ⟨⟨⟨s.r.c.entries, s.r.c.groups, q.1, q.2.1, q.2.2⟩, true⟩, s.first, s.n + 1⟩ := by
  unfold stepT
  rw [if_neg ht, baseP_W s.r t h]
  cases baseW t with
  | some q => rfl
  | none =>
    have hg : groupP s.r t = none := by unfold groupP; rw [h]; rfl
    have he : entryP s.r t = none := by unfold entryP; rw [h]; rfl
    simp only [Option.map_none]
    rw [hg, he]
theorem base_started {r : RdD} {t : List UInt8} (h : r.started = true) : baseP r t = none := by unfold baseP; rw [h]; rfl
theorem stepT_group {s : StF} {t : List UInt8} (h : s.r.started = true) (he : s.r.c.entries = []) (ht : t.head? = some 64) : stepT s t = (groupW t).map fun g => ⟨⟨⟨s.r.c.entries, s.r.c.groups ++ [g], s.r.c.base, s.r.c.second, s.r.c.third⟩, s.r.started⟩, s.first, s.n + 1⟩ := by
  unfold stepT
  rw [if_neg (fun e => by rw [e] at ht; cases ht), base_started h, groupP_W s.r t h he]
  cases groupW t with
  | some q => rfl
  | none =>
    have hn : entryP s.r t = none := by unfold entryP; rw [h, ent_at ht]; rfl
    simp only [Option.map_none]
    rw [hn]
theorem stepT_entry {s : StF} {t : List UInt8} (h : s.r.started = true) (ht : t ≠ []) (hne : ¬ (t.head? = some 64 ∧ s.r.c.entries = [])) : stepT s t = (entP t).map fun e => ⟨addN s.r e, if chksE e.els ≠ 0 ∧ s.first.1 = 0 then (chksE e.els, (s.n : Int) + 1) else s.first, s.n + 1⟩ := by
  have hg : groupP s.r t = none := by
    unfold groupP
    rw [if_pos]
    by_cases he : s.r.c.entries = []
    · have h1 := head_group (l := t) (fun e => hne ⟨e, he⟩)
      simp [h1]
    · have h1 : 0 < s.r.c.entries.length := by
        cases hh : s.r.c.entries with
        | nil => exact absurd hh he
        | cons => simp
      simp [h1]
  have hn : entryP s.r t = entP t := by unfold entryP; rw [h]; rfl
  unfold stepT
  rw [if_neg ht, base_started h, hg, hn]
  cases entP t <;> rfl

/-- the pieces of a text are its lines, and perhaps an empty one behind them -/
theorem split_lines : ∀ (l : List UInt8), (splitL 10 l = linesL l ∧ ∃ p, (linesL l).getLast? = some p ∧ p ≠ []) ∨ splitL 10 l = linesL l ++ [[]]
  | [] => .inr rfl
  | b :: l => by
    by_cases hb : b = 10
    · subst hb
      rw [splitL_hit, linesL, if_pos rfl]
      rcases split_lines l with ⟨h1, p, h2, h3⟩ | h
      · refine .inl ⟨by rw [h1], p, ?_, h3⟩
        rw [List.getLast?_cons, h2]
        rfl
      · exact .inr (by rw [h]; rfl)
    · rw [splitL_miss hb, linesL, if_neg hb]
      rcases split_lines l with ⟨h1, p, h2, h3⟩ | h
      · rw [h1]
        cases hl : linesL l with
        | nil => rw [hl] at h2; cases h2
        | cons q qs =>
          refine .inl ⟨rfl, ?_⟩
          rw [hl] at h2
          cases qs with
          | nil => exact ⟨b :: q, rfl, by simp⟩
          | cons q2 qs2 => exact ⟨p, by rw [List.getLast?_cons_cons] at h2 ⊢; exact h2, h3⟩
      · rw [h]
        cases hl : linesL l with
        | nil => exact .inl ⟨rfl, [b], rfl, by simp⟩
        | cons q qs => exact .inr rfl

theorem stepF_nil (s : StF) : stepF s [] = some ⟨s.r, s.first, s.n + 1⟩ := rfl
theorem stepsF_snoc {ls : List (List UInt8)} {s s1 : StF} {p : List UInt8} (h : stepsF ls s = some s1) : stepsF (ls ++ [p]) s = stepF s1 p := by
  rw [stepsF_app ls [p] s s1 h, stepsF]
  cases stepF s1 p <;> rfl
theorem stepsF_take {ls : List (List UInt8)} {k : Nat} {s s1 : StF} (hk : k < ls.length) (h : stepsF (ls.take k) s = some s1) : stepsF (ls.take (k + 1)) s = stepF s1 (piece ls k) := by
  have e : ls.take (k + 1) = ls.take k ++ [piece ls k] := by
    rw [List.take_succ_eq_append_getElem hk]
    unfold piece
    rw [List.getD_eq_getElem?_getD, List.getElem?_eq_getElem hk]
    rfl
  rw [e, stepsF_snoc h]
/-- a line that cannot be read -/
theorem run_bad {l : List UInt8} {k : Nat} {st : StF} (hk : k < (splitL 10 l).length) (h : stepsF ((splitL 10 l).take k) startF = some st) (hb : stepF st (piece (splitL 10 l) k) = none) : runF (linesL l) startF = (zeroC, (3, (st.n : Int) + 1)) := by
  have key : ∃ r, linesL l = (splitL 10 l).take k ++ piece (splitL 10 l) k :: r := by
    have e1 : (splitL 10 l) = (splitL 10 l).take k ++ piece (splitL 10 l) k :: (splitL 10 l).drop (k + 1) := by
      rw [← drop_piece hk, List.take_append_drop]
    rcases split_lines l with ⟨h1, _⟩ | h1
    · exact ⟨_, by rw [← h1]; exact e1⟩
    · have hk2 : k < (linesL l).length := by
        refine Classical.byContradiction fun hn => ?_
        have hke : k = (linesL l).length := by rw [h1] at hk; simp at hk; omega
        have : piece (splitL 10 l) k = [] := by rw [h1, hke]; simp [piece]
        rw [this, stepF_nil] at hb
        cases hb
      refine ⟨(linesL l).drop (k + 1), ?_⟩
      have e2 : (splitL 10 l).take k = (linesL l).take k := by rw [h1, List.take_append_of_le_length (by omega)]
      have e3 : piece (splitL 10 l) k = piece (linesL l) k := by
        unfold piece
        rw [h1, List.getD_eq_getElem?_getD, List.getD_eq_getElem?_getD, List.getElem?_append_left hk2]
      rw [e2, e3, ← drop_piece hk2, List.take_append_drop]
  obtain ⟨r, hr⟩ := key
  rw [hr, runF_app _ _ _ _ h, runF, hb]
/-- the end: n is the number of lines -/
theorem run_end {l : List UInt8} {st : StF} (h : stepsF (splitL 10 l) startF = some st) (hn : st.n = (splitL 10 l).length) : runF (linesL l) startF = finF ⟨st.r, st.first, if piece (splitL 10 l) ((splitL 10 l).length - 1) = [] then (splitL 10 l).length - 1 else (splitL 10 l).length⟩ := by
  rcases split_lines l with ⟨h1, p, h2, h3⟩ | h1
  · have hp : piece (splitL 10 l) ((splitL 10 l).length - 1) = p := by
      rw [h1]
      rw [List.getLast?_eq_getElem?] at h2
      unfold piece
      rw [List.getD_eq_getElem?_getD, h2]
      rfl
    rw [hp, if_neg h3, ← hn]
    rw [h1] at h
    have := runF_app (linesL l) [] startF st h
    rw [List.append_nil] at this
    rw [this]
    rfl
  · have hp : piece (splitL 10 l) ((splitL 10 l).length - 1) = [] := by
      rw [h1]
      simp [piece]
    rw [hp, if_pos rfl]
    rw [h1] at h hn ⊢
    cases hs : stepsF (linesL l) startF with
    | none =>
      have : stepsF (linesL l ++ [[]]) startF = none := by
        have key : ∀ (a b : List (List UInt8)) (s : StF), stepsF a s = none → stepsF (a ++ b) s = none := by
          intro a b
          induction a with
          | nil => intro s h; cases h
          | cons x a ih =>
            intro s h
            rw [List.cons_append, stepsF]
            rw [stepsF] at h
            cases hx : stepF s x with
            | none => rfl
            | some s' => rw [hx] at h; exact ih s' h
        exact key _ _ _ hs
      rw [this] at h
      cases h
    | some s1 =>
      rw [stepsF_snoc hs, stepF_nil] at h
      injection h with h
      subst h
      have := runF_app (linesL l) [] startF s1 hs
      rw [List.append_nil] at this
      rw [this]
      dsimp only at hn ⊢
      have e : s1.n = (linesL l ++ [[]]).length - 1 := by omega
      rw [← e]
      rfl
end Go.Proofs.YthogkokifiibnaaGreatDoor
