/- Parse of Text gives the lines back: the plain law. -/
import Derived.Test.YtafmdeipcepaiaaDoorLnP3
import Derived.Test.YtafmdeipcepaiaaDoorLn21
namespace Go.Proofs.YtafmdeipcepaiaaDoor
open Go.RowKit Go.Sort

theorem digit_byte9 (k : Nat) (hk : k < 16) : hexVal ((UInt8.ofNat (hexC k)).toNat : Int) = k ∧ 48 ≤ (UInt8.ofNat (hexC k)).toNat ∧ ¬ (UInt8.ofNat (hexC k)).toNat = 59 := by
  have h1 := hexC_le k hk
  have e : (UInt8.ofNat (hexC k)).toNat = hexC k := by rw [UInt8.toNat_ofNat']; omega
  rw [e]
  refine ⟨hexVal_hit hk rfl, h1.1, ?_⟩
  have := hexC_is k
  omega
theorem numL_app9 : ∀ (l : List UInt8) (b : UInt8) (acc : Int), numL (l ++ [b]) acc = match numL l acc with | none => none | some c => if hexVal (b.toNat : Int) < 0 then none else some (c * 16 + hexVal (b.toNat : Int))
  | [], b, acc => by simp [numL]
  | a :: r, b, acc => by
    rw [List.cons_append, numL, numL]
    split
    · rfl
    · exact numL_app9 r b _
theorem numL_hexN9 : ∀ (n c : Nat), c < 16 ^ n → numL (hexN n c) 0 = some (c : Int)
  | 0, c, h => by simp at h; subst h; rfl
  | n + 1, c, h => by
    have h1 : c / 16 < 16 ^ n := by rw [Nat.pow_succ] at h; omega
    have h2 := (digit_byte9 (c % 16) (by omega)).1
    rw [hexN, numL_app9, numL_hexN9 n (c / 16) h1]
    dsimp only
    rw [h2, if_neg (by omega)]
    congr 1
    omega
theorem parse_hex9 {x : Int} (h : validB x = true) : parseCp (hexL x) = some x := by
  obtain ⟨n, rfl, hn, e⟩ := hexL_yes h
  have hl : 4 ≤ hexLen n ∧ hexLen n ≤ 6 ∧ n < 16 ^ hexLen n := by
    unfold hexLen
    split
    · exact ⟨by omega, by omega, by omega⟩
    · split
      · exact ⟨by omega, by omega, by omega⟩
      · exact ⟨by omega, by omega, by omega⟩
  unfold parseCp
  rw [e, hexN_length, if_neg (by omega), numL_hexN9 _ _ hl.2.2]
  dsimp only
  rw [if_pos e]
theorem hexN_mem : ∀ {n c : Nat} {b : UInt8}, b ∈ hexN n c → 48 ≤ b.toNat ∧ ¬ b.toNat = 59
  | 0, _, _, h => by cases h
  | n + 1, c, b, h => by
    rw [hexN] at h
    rcases List.mem_append.1 h with h | h
    · exact hexN_mem h
    · simp at h
      rw [h]
      exact (digit_byte9 (c % 16) (by omega)).2
theorem hexL_mem {c : Int} {b : UInt8} (h : b ∈ hexL c) : 48 ≤ b.toNat ∧ ¬ b.toNat = 59 := by
  unfold hexL at h
  split at h
  · exact hexN_mem h
  · cases h
theorem hexL_cons {c : Int} (h : validB c = true) : ∃ x r, hexL c = x :: r := by
  obtain ⟨n, rfl, hn, e⟩ := hexL_yes h
  cases hh : hexL (n : Int) with
  | nil =>
    rw [hh] at e
    have := congrArg List.length e
    rw [hexN_length] at this
    unfold hexLen at this
    simp at this
    split at this <;> (try split at this) <;> omega
  | cons x r => exact ⟨x, r, rfl⟩
theorem headT_mem {d : LineD} {b : UInt8} (h : b ∈ headT d) : 46 ≤ b.toNat ∧ ¬ b.toNat = 59 := by
  unfold headT at h
  rcases List.mem_append.1 h with h | h
  · have := hexL_mem h; omega
  · split at h
    · cases h
    · rcases List.mem_append.1 h with h | h
      · simp at h
        rw [h]
        decide
      · have := hexL_mem h; omega
theorem isB_lt {b : UInt8} (h : isB b = true) : b.toNat < 46 := by
  unfold isB at h
  rw [List.contains_eq_mem] at h
  simp only [decide_eq_true_eq, List.mem_cons, List.not_mem_nil, or_false] at h
  rcases h with rfl | rfl | rfl <;> decide
theorem dropWhile_none {p : UInt8 → Bool} : ∀ {l : List UInt8}, (∀ b ∈ l, p b = false) → l.dropWhile p = l
  | [], _ => rfl
  | b :: l, h => by rw [List.dropWhile_cons, if_neg (by rw [h b (by simp)]; simp)]
theorem trimL_none {l : List UInt8} (h : ∀ b ∈ l, isB b = false) : trimL l = l := by
  unfold trimL trimLft trimRgt
  rw [dropWhile_none (l := l.reverse) (fun b hb => h b (List.mem_reverse.1 hb)), List.reverse_reverse, dropWhile_none h]
theorem headT_trim (d : LineD) : trimL (headT d) = headT d := trimL_none fun b hb => by
  cases h : isB b with
  | false => rfl
  | true => have := isB_lt h; have := headT_mem hb; omega
theorem cutDD_none : ∀ {l : List UInt8}, (46 : UInt8) ∉ l → cutDD l = none
  | [], _ => rfl
  | b :: l, h => by
    rw [cutDD, if_neg (fun e => h (by simp [e.1])), cutDD_none (fun e => h (by simp [e]))]
    rfl
theorem cutDD_app : ∀ {l : List UInt8}, (46 : UInt8) ∉ l → ∀ r, cutDD (l ++ 46 :: 46 :: r) = some (l, r)
  | [], _, r => by simp [cutDD]
  | b :: l, h, r => by
    rw [List.cons_append, cutDD, if_neg (fun e => h (by simp [e.1])), cutDD_app (fun e => h (by simp [e])) r]
    rfl
theorem spanP_head {d : LineD} (h1 : validB d.lo = true) (h2 : validB d.hi = true) (h3 : d.lo ≤ d.hi) : spanP (headT d) = some (d.lo, d.hi) := by
  have hn : ∀ c, (46 : UInt8) ∉ hexL c := fun c h => by have := (hexL_mem h).1; have h3 : (46 : UInt8).toNat = 46 := rfl; omega
  unfold spanP headT
  split
  · rename_i p hp
    split at hp
    · rename_i he
      rw [List.append_nil, cutDD_none (hn _)] at hp
      cases hp
    · rw [show hexL d.lo ++ ([46, 46] ++ hexL d.hi) = hexL d.lo ++ 46 :: 46 :: hexL d.hi from rfl, cutDD_app (hn _)] at hp
      cases hp
      simp only
      rw [parse_hex9 h1, parse_hex9 h2]
      simp [h3]
  · rename_i hp
    split at hp
    · rename_i he
      rw [if_pos he, List.append_nil, parse_hex9 h1, he]
    · rw [show hexL d.lo ++ ([46, 46] ++ hexL d.hi) = hexL d.lo ++ 46 :: 46 :: hexL d.hi from rfl, cutDD_app (hn _)] at hp
      cases hp
/-- a line without its line feed -/
def bodyL (d : LineD) : List UInt8 := headT d ++ fieldsT d.fields ++ comT d.com
theorem oneL_body (d : LineD) : oneL d = bodyL d ++ [10] := rfl
theorem fieldsT_mem {fs : List (List UInt8)} {b : UInt8} (h : b ∈ fieldsT fs) : b = 59 ∨ b = 32 ∨ ∃ f ∈ fs, b ∈ f := by
  unfold fieldsT at h
  obtain ⟨f, hf, hb⟩ := List.mem_flatMap.1 h
  simp at hb
  rcases hb with rfl | rfl | hb
  · exact .inl rfl
  · exact .inr (.inl rfl)
  · exact .inr (.inr ⟨f, hf, hb⟩)
theorem splitL_fields : ∀ {fs : List (List UInt8)} {h : List UInt8}, (59 : UInt8) ∉ h → (∀ f ∈ fs, (59 : UInt8) ∉ f) → splitL 59 (h ++ fieldsT fs) = h :: fs.map (32 :: ·)
  | [], h, hh, _ => by
    rw [show fieldsT [] = [] from rfl, List.append_nil, splitL_free hh]
    rfl
  | f :: fs, h, hh, hf => by
    have e : fieldsT (f :: fs) = 59 :: ((32 :: f) ++ fieldsT fs) := by simp [fieldsT]
    rw [e, splitL_join, splitL_free hh, splitL_fields (h := 32 :: f) (by have := hf f (by simp); simp [this]) (fun g hg => hf g (by simp [hg]))]
    rfl
structure OkL (d : LineD) : Prop where
  lo : validB d.lo = true
  hi : validB d.hi = true
  le : d.lo ≤ d.hi
  fld : ∀ f ∈ d.fields, (59 : UInt8) ∉ f ∧ (35 : UInt8) ∉ f ∧ (10 : UInt8) ∉ f ∧ trimL f = f
  com : (10 : UInt8) ∉ d.com ∧ trimL d.com = d.com
theorem okL_of {d : LineD} (h : chkL d = 0) : OkL d := by
  unfold chkL at h
  split at h
  · rename_i h1
    simp only [Bool.and_eq_true, decide_eq_true_eq] at h1
    split at h
    · rename_i h2
      simp only [Bool.and_eq_true, List.all_eq_true] at h2
      refine ⟨h1.1.1, h1.1.2, h1.2, fun f hf => ?_, ?_⟩
      · have := h2.1 f hf
        unfold fieldOk at this
        rw [any_three] at this
        simp at this
        exact ⟨this.1.1.1, this.1.1.2, this.1.2, this.2⟩
      · have := h2.2
        unfold comOk at this
        simp at this
        exact this
    · cases h
  · cases h
theorem body_free {d : LineD} (h : OkL d) : (10 : UInt8) ∉ bodyL d := by
  intro hb
  unfold bodyL at hb
  rcases List.mem_append.1 hb with hb | hb
  · rcases List.mem_append.1 hb with hb | hb
    · have := (headT_mem hb).1
      have h3 : (10 : UInt8).toNat = 10 := rfl
      omega
    · rcases fieldsT_mem hb with e | e | ⟨f, hf, hm⟩
      · exact absurd e (by decide)
      · exact absurd e (by decide)
      · exact (h.fld f hf).2.2.1 hm
  · unfold comT at hb
    split at hb
    · cases hb
    · simp at hb
      exact h.com.1 hb
theorem comment_body {d : LineD} (h : OkL d) : ∃ y, y.all isB = true ∧ commentP (bodyL d) = (headT d ++ fieldsT d.fields ++ y, d.com) := by
  have hn : (35 : UInt8) ∉ headT d ++ fieldsT d.fields := by
    intro hb
    rcases List.mem_append.1 hb with hb | hb
    · have := (headT_mem hb).1
      have h3 : (35 : UInt8).toNat = 35 := rfl
      omega
    · rcases fieldsT_mem hb with e | e | ⟨f, hf, hm⟩
      · exact absurd e (by decide)
      · exact absurd e (by decide)
      · exact (h.fld f hf).2.1 hm
  unfold bodyL comT
  by_cases hc : d.com = []
  · refine ⟨[], rfl, ?_⟩
    rw [if_pos hc, hc, List.append_nil]
    unfold commentP
    rw [cutB_none.2 hn]
  · refine ⟨[32], by decide, ?_⟩
    rw [if_neg hc]
    have e : headT d ++ fieldsT d.fields ++ ([32, 35, 32] ++ d.com) = (headT d ++ fieldsT d.fields ++ [32]) ++ 35 :: ([32] ++ d.com) := by simp
    have hcut : cutB 35 (headT d ++ fieldsT d.fields ++ ([32, 35, 32] ++ d.com)) = some (headT d ++ fieldsT d.fields ++ [32], [32] ++ d.com) := by
      rw [e, cutB_pre (by intro hm; rcases List.mem_append.1 hm with hm | hm; exact hn hm; exact absurd hm (by decide))]
      simp [cutB]
    unfold commentP
    rw [hcut]
    simp only
    rw [trimL_pre (by decide), h.com.2]
theorem lineQ_body {d : LineD} (h : OkL d) (k : Nat) : lineQ (k, bodyL d) = some (some { d with num := k }) := by
  obtain ⟨y, hy, hc⟩ := comment_body h
  have hs : (splitL 59 (headT d ++ fieldsT d.fields ++ y)).map trimL = headT d :: d.fields := by
    have h59 : (59 : UInt8) ∉ headT d := fun hb => (headT_mem hb).2 rfl
    rw [splitL_suf (by decide) hy, splitL_fields h59 (fun f hf => (h.fld f hf).1), List.map_cons, headT_trim, List.map_map]
    congr 1
    have : ∀ f ∈ d.fields, (trimL ∘ (32 :: ·)) f = f := fun f hf => by
      show trimL ([32] ++ f) = f
      rw [trimL_pre (by decide), (h.fld f hf).2.2.2]
    rw [List.map_congr_left this, List.map_id']
  have ht : ¬ trimL (headT d ++ fieldsT d.fields ++ y) = [] := by
    obtain ⟨x, r, hx⟩ := hexL_cons h.lo
    have hm : x ∈ hexL d.lo := by rw [hx]; simp
    have hxb : isB x = false := by
      cases hb : isB x with
      | false => rfl
      | true => have := isB_lt hb; have := hexL_mem hm; omega
    intro e
    rw [← trim_comm] at e
    obtain ⟨z, e1⟩ : ∃ z, headT d ++ fieldsT d.fields ++ y = x :: z := ⟨r ++ (if d.hi = d.lo then [] else [46, 46] ++ hexL d.hi) ++ fieldsT d.fields ++ y, by unfold headT; rw [hx]; simp⟩
    rw [e1] at e
    unfold trimLft at e
    rw [List.dropWhile_cons, if_neg (by rw [hxb]; simp)] at e
    unfold trimRgt at e
    have e2 := congrArg List.reverse e
    rw [List.reverse_reverse, List.reverse_cons, List.dropWhile_append] at e2
    split at e2
    · rw [List.dropWhile_cons, if_neg (by rw [hxb]; simp)] at e2
      cases e2
    · simp at e2
  rw [lineQ_eq, hc]
  simp only
  rw [if_neg ht, hs]
  simp only [List.headD_cons, List.drop_succ_cons, List.drop_zero]
  rw [spanP_head h.lo h.hi h.le]
  rfl
def renum (j : Nat) : List LineD → List LineD
  | [] => []
  | d :: ls => { d with num := j } :: renum (j + 1) ls
theorem renum_length : ∀ (j : Nat) (ls : List LineD), (renum j ls).length = ls.length
  | _, [] => rfl
  | j, d :: ls => by simp [renum, renum_length (j + 1) ls]
theorem renum_at : ∀ (j : Nat) (ls : List LineD) (k : Nat), k < ls.length → lineAt (renum j ls) k = { lineAt ls k with num := ((j + k : Nat) : Int) }
  | _, [], k, h => by simp at h
  | j, d :: ls, 0, _ => by simp [renum, lineAt]
  | j, d :: ls, k + 1, h => by
    have := renum_at (j + 1) ls k (by simpa using h)
    rw [show j + 1 + k = j + (k + 1) by omega] at this
    exact this
theorem split_text : ∀ {ls : List LineD}, (∀ d ∈ ls, OkL d) → splitL 10 (ls.flatMap oneL) = ls.map bodyL ++ [[]]
  | [], _ => rfl
  | d :: ls, h => by
    have e : (d :: ls).flatMap oneL = bodyL d ++ 10 :: ls.flatMap oneL := by rw [List.flatMap_cons, oneL_body]; simp
    rw [e, splitL_join, splitL_free (body_free (h d (by simp))), split_text (fun x hx => h x (by simp [hx]))]
    rfl
theorem blank_line (k : Nat) : lineQ (k, []) = some none := by
  unfold lineQ
  rw [if_pos (by kernel_rfl)]
theorem good_text : ∀ (j : Nat) {ls : List LineD}, (∀ d ∈ ls, OkL d) → goodP (numP j (ls.map bodyL ++ [[]])) = renum j ls ∧ badP (numP j (ls.map bodyL ++ [[]])) = none
  | j, [], _ => by
    simp only [List.map_nil, List.nil_append, numP, goodP, badP, renum]
    rw [List.flatMap_cons, List.find?_cons, blank_line]
    simp
  | j, d :: ls, h => by
    obtain ⟨h1, h2⟩ := good_text (j + 1) (ls := ls) (fun x hx => h x (by simp [hx]))
    have hq := lineQ_body (h d (by simp)) j
    simp only [goodP, badP] at h1 h2 ⊢
    rw [List.map_cons, List.cons_append, numP, List.flatMap_cons, List.find?_cons, hq, h1, renum]
    exact ⟨by simp, by simpa using h2⟩
/-- Parse of Text -/
theorem text_res {ls : List LineD} (h : ls.all (fun d => chkL d == 0) = true) (hl : (ls.flatMap oneL).length ≤ 65536) : fltE (ls.flatMap oneL) = 0 ∧ fltK (ls.flatMap oneL) = 0 ∧ resL (ls.flatMap oneL) = renum 1 ls := by
  have hok : ∀ d ∈ ls, OkL d := fun d hd => okL_of (by have := List.all_eq_true.1 h d hd; simpa using this)
  obtain ⟨h1, h2⟩ := good_text 1 hok
  unfold fltE fltK resL
  rw [badN_of hl, goodN_of hl]
  unfold badN goodN
  rw [split_text hok, h1, h2]
  simp
end Go.Proofs.YtafmdeipcepaiaaDoor
