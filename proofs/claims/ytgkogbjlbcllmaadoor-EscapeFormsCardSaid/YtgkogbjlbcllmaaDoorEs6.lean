/- escape.Parse -/
import Derived.Test.YtgkogbjlbcllmaaDoorEs5
import Derived.WalkMore
namespace Go.Proofs.YtgkogbjlbcllmaaDoor
open Go.RowKit Go.Sort

abbrev PE := List Int × Int × Int
/-- the rest of a literal, from place i on, k bytes to be passed over first -/
def scanS : List UInt8 → Nat → Nat → List Int → PE
  | [], i, _, _ => ([], 3, (i : Int))
  | _ :: r, i, k + 1, acc => scanS r (i + 1) k acc
  | b :: r, i, 0, acc =>
    if b.toNat = 34 then (if r = [] then (acc, 0, 0) else ([], 3, ((i + 1 : Nat) : Int)))
    else if b.toNat < 32 ∨ 126 < b.toNat then ([], 3, (i : Int))
    else if b.toNat ≠ 92 then scanS r (i + 1) 0 (acc ++ [(b.toNat : Int)])
    else if (escR (b :: r)).2.1 = 0 then ([], 3, (i : Int))
    else if (escR (b :: r)).2.2 = false then ([], 3, ((i + (b :: r).length : Nat) : Int))
    else scanS r (i + 1) ((escR (b :: r)).2.1.toNat - 1) (acc ++ [(escR (b :: r)).1])
def parseE (s : List UInt8) : PE := if 65536 < s.length then ([], 2, 0) else if s = [] ∨ btN s 0 ≠ 34 then ([], 3, 0) else scanS (s.drop 1) 1 0 []

theorem scanS_skip : ∀ (l : List UInt8) (i k : Nat) (acc : List Int), k ≤ l.length → scanS l i k acc = scanS (l.drop k) (i + k) 0 acc
  | l, i, 0, acc, _ => by simp
  | [], i, k + 1, acc, h => by simp at h
  | b :: r, i, k + 1, acc, h => by
    rw [scanS, scanS_skip r (i + 1) k acc (by simpa using h), List.drop_succ_cons]
    congr 1
    omega

theorem escHex_n : ∀ (l : List UInt8) (i : Nat) (c : Int), (escHex l i c).2.1 = 0 ∨ (((i + 3 : Nat) : Int) ≤ (escHex l i c).2.1 ∧ (escHex l i c).2.1 ≤ ((i + 3 + l.length : Nat) : Int) ∧ ((escHex l i c).2.2 = false → (escHex l i c).2.1 = ((i + 3 + l.length : Nat) : Int)))
  | [], i, c => by simp [escHex]
  | b :: r, i, c => by
    have ih := escHex_n r (i + 1) (c * 16 + digV b.toNat)
    unfold escHex
    split
    · right; simp; omega
    · split
      · left; rfl
      · split
        · left; rfl
        · rcases ih with ih | ih
          · exact .inl ih
          · right
            simp only [List.length_cons]
            refine ⟨by omega, by omega, fun h => by have := ih.2.2 h; omega⟩
theorem escR_n (s : List UInt8) (h1 : 1 ≤ s.length) : (escR s).2.1 = 0 ∨ (1 ≤ (escR s).2.1 ∧ (escR s).2.1 ≤ s.length ∧ ((escR s).2.2 = false → (escR s).2.1 = s.length)) := by
  unfold escR
  split
  · right; simp; omega
  · rename_i hno
    have h2 : 2 ≤ s.length := by
      rcases Nat.lt_or_ge s.length 2 with h | h
      · exact absurd (.inl (by omega)) hno
      · exact h
    split
    · right; simp; omega
    · split
      · left; rfl
      · rename_i hp
        have hl3 : 3 ≤ s.length := by
          have hp' : Lib.hasPrefix s [92, 117, 123] = true := by simpa using hp
          unfold Lib.hasPrefix at hp'
          have := (List.isPrefixOf_iff_prefix.1 hp').length_le
          simpa using this
        rcases escHex_n (s.drop 3) 0 0 with h | h
        · exact .inl h
        · right
          rw [List.length_drop] at h
          refine ⟨by omega, by omega, fun hf => by have := h.2.2 hf; omega⟩
theorem escHex_c : ∀ (l : List UInt8) (i : Nat) (c : Int), 0 ≤ c → c ≤ 1114111 → 0 ≤ (escHex l i c).1 ∧ (escHex l i c).1 ≤ 1114111
  | [], i, c, h0, h1 => by simp [escHex]
  | b :: r, i, c, h0, h1 => by
    unfold escHex
    split
    · exact ⟨h0, h1⟩
    · split
      · simp
      · split
        · simp
        · rename_i hv
          have := valid_range (by simpa using hv)
          exact escHex_c r (i + 1) _ this.1 this.2
theorem escR_c (s : List UInt8) : 0 ≤ (escR s).1 ∧ (escR s).1 ≤ 1114111 := by
  have hb := btN_lt s 1
  unfold escR
  split
  · simp
  · split
    · simp; omega
    · split
      · simp
      · exact escHex_c _ _ _ (by omega) (by omega)

section
variable {l : List UInt8} {k : Nat} {acc : List Int} {r : PE}
theorem scan_at (hk : k < l.length) (h : r = scanS (l.drop k) k 0 acc) : r = if btN l k = 34 then (if k + 1 = l.length then (acc, 0, 0) else ([], 3, ((k + 1 : Nat) : Int)))
    else if btN l k < 32 ∨ 126 < btN l k then ([], 3, (k : Int))
    else if btN l k ≠ 92 then scanS (l.drop (k + 1)) (k + 1) 0 (acc ++ [(btN l k : Int)])
    else if (escR (l.drop k)).2.1 = 0 then ([], 3, (k : Int))
    else if (escR (l.drop k)).2.2 = false then ([], 3, (l.length : Int))
    else scanS (l.drop (k + 1)) (k + 1) ((escR (l.drop k)).2.1.toNat - 1) (acc ++ [(escR (l.drop k)).1]) := by
  have hd := bytes_drop hk
  rw [h, hd, scanS, ← hd, btN_get hk]
  have e1 : (l.drop (k + 1) = []) = (k + 1 = l.length) := by
    rw [List.drop_eq_nil_iff]
    exact propext ⟨fun h => by omega, fun h => by omega⟩
  have e2 : ((k + (l.drop k).length : Nat) : Int) = (l.length : Int) := by rw [List.length_drop]; omega
  rw [e2]
  simp only [e1]
theorem scan_end (hk : l.length ≤ k) (hk' : k ≤ l.length) (h : r = scanS (l.drop k) k 0 acc) : r = ([], 3, (l.length : Int)) := by
  rw [h, List.drop_of_length_le hk, scanS]
  congr 2
  omega
end
def ParseEOut (r : PE) (w : World) (e : Ending) (w' : World) : Prop :=
  ∃ A c, e = .returned (.tuple #[.slice A r.1.length c, .agg #[.int .i64 r.2.1, .int .i64 r.2.2]]) ∧ IntsAt w' A r.1 ∧ Below w.heap.size w w'

theorem strSliceLo (l : List UInt8) {j : Nat} (h1 : j ≤ l.length) (w : World) : (Instr.slice 9 (.string ⟨l.toArray⟩) (some (.int .i64 j)) none none).run Tryd.prog w = .ok (.string ⟨(l.drop j).toArray⟩) w := by
  have h3 : (j : Int) ≤ l.length := by omega
  simp [go_sem, Tryd.underlying9, h3, seg_end]

set_option maxHeartbeats 4000000 in
set_option maxRecDepth 100000 in
theorem esParse (l : List UInt8) (w : World) (hs : l.length ≤ 9223372036854775807) :
    Calls Tryd.prog 19 #[.string ⟨l.toArray⟩] w (ParseEOut (parseE l) w) := by
  by_cases hl : 65536 < l.length
  · have HV := Lib.hid (show parseE l = ([], 2, 0) by simp [parseE, hl])
    go_enter Tryd.func19, Tryd.ntmps19
    go_wp2_with fail
    go_step3
    go_wp2_with fail
    (try rw [Exit.noGoto_ret])
    refine bodyPost_ret (v := .tuple #[.slice none 0 0, .agg #[.int .i64 2, .int .i64 0]]) (by simp [results, Tryd.results19, go_sem]) rfl ?_
    rw [HV.out]
    exact ⟨none, 0, rfl, IntsAt.nil, bBox _ _⟩
  by_cases he : l = []
  · subst he
    have HV := Lib.hid (show parseE [] = ([], 3, 0) by rfl)
    go_enter Tryd.func19, Tryd.ntmps19
    go_wp2_with fail
    go_step3
    go_wp2_with fail
    (try rw [Exit.noGoto_ret])
    refine bodyPost_ret (v := .tuple #[.slice none 0 0, .agg #[.int .i64 3, .int .i64 0]]) (by simp [results, Tryd.results19, go_sem]) rfl ?_
    rw [HV.out]
    exact ⟨none, 0, rfl, IntsAt.nil, bBox _ _⟩
  have hem : l.isEmpty = false := by cases l with | nil => exact absurd rfl he | cons a b => rfl
  have hl0 : 0 < l.length := by cases l with | nil => exact absurd rfl he | cons a b => simp
  have hli : (0 : Int) < l.length := by omega
  have hb0 := btN_lt l 0
  by_cases h34 : btN l 0 = 34
  · have HV := Lib.hid (show parseE l = scanS (l.drop 1) 1 0 [] by rw [parseE, if_neg hl, if_neg (by rintro (h | h); exact he h; exact h h34)])
    have q1 : ((btN l 0 : Int) != 34) = false := by simp; omega
    have He := Lib.hid he
    have H34 := Lib.hid h34
    clear he h34
    go_enter Tryd.func19, Tryd.ntmps19
    go_wp2_with fail
    go_step3
    go_wp2_with fail
    go_step3
    go_wp2_with fail
    go_loopw [4, 5] (fun o i wr => ∃ (k : Nat) (acc : List Int), k ≤ l.length ∧ i = .int .i64 k ∧ Hid (OwnI wr (w.heap.size + 1) o acc) ∧ acc.length ≤ k ∧ Hid (parseE l = scanS (l.drop k) k 0 acc) ∧ Below (w.heap.size + 1) (w.alloc (.cells #[.int .i64 0, .int .i64 0] 36)) wr) (fun _ i _ => l.length - (intOf i).toNat)
    case atStart => exact ⟨1, [], by omega, rfl, Lib.hid (OwnI.nil _ _), by simp, HV, Below.refl _ _⟩
    case round =>
      obtain ⟨k, acc, hk, rfl, HO, hacc, HE, hbr⟩ := hrel
      have hbr' : Below (w.alloc (.cells #[.int .i64 0, .int .i64 0] 36)).heap.size (w.alloc (.cells #[.int .i64 0, .int .i64 0] 36)) wr := by simpa using hbr
      have hfb := (Blk.new w #[.int .i64 0, .int .i64 0] 36).keep hbr'
      have f0 := hfb.cell 0
      have f1 := hfb.cell 1
      have g0 := hfb.frozen 0
      have g1 := hfb.frozen 1
      have hw : Below w.heap.size w wr := bUp (bBox _ _) hbr'
      have hsz : w.heap.size + 1 ≤ wr.heap.size := by have := hbr'.size; simpa using this
      clear hfb
      by_cases hlt : k < l.length
      · have hst := scan_at hlt HE.out
        have hki : (k : Int) < l.length := by omega
        have hb := btN_lt l k
        by_cases h1 : btN l k = 34
        · rw [if_pos h1] at hst
          have p1 : ((btN l k : Int) == 34) = true := by simp; omega
          obtain ⟨A', c', rfl⟩ := HO.out.form
          by_cases h2 : k + 1 = l.length
          · rw [if_pos h2] at hst
            have p2 : (((k : Int) + 1) != l.length) = false := by simp; omega
            have HF := Lib.hid hst
            have H1 := Lib.hid h1
            have H2 := Lib.hid h2
            clear h1 h2
            clear hst HE
            go_wp2_with fail
            (try rw [Exit.noGoto_ret])
            refine bodyPost_ret (v := .tuple #[.slice A' acc.length c', .agg #[.int .i64 0, .int .i64 0]]) (by simp [results, Tryd.results19, go_sem, f0, f1]) rfl ?_
            rw [HF.out]
            exact ⟨A', c', rfl, HO.out.set2 (by omega) _ _, bSet2 hw (Nat.le_refl _) _ _⟩
          · rw [if_neg h2] at hst
            have p2 : (((k : Int) + 1) != l.length) = true := by simp; omega
            have p3 : (k : Int) + 1 ≤ l.length := by omega
            have HF := Lib.hid hst
            have H1 := Lib.hid h1
            have H2 := Lib.hid h2
            clear h1 h2
            clear hst HE
            go_wp2_with fail
            (try rw [Exit.noGoto_ret])
            refine bodyPost_ret (v := .tuple #[.slice none 0 0, .agg #[.int .i64 3, .int .i64 ((k + 1 : Nat) : Int)]]) (by simp [results, Tryd.results19, go_sem, f0, f1]; omega) rfl ?_
            rw [HF.out]
            exact ⟨none, 0, rfl, IntsAt.nil, bSet2 hw (Nat.le_refl _) _ _⟩
        rw [if_neg h1] at hst
        have p1 : ((btN l k : Int) == 34) = false := by simp; omega
        by_cases h2 : btN l k < 32 ∨ 126 < btN l k
        · rw [if_pos h2] at hst
          have HF := Lib.hid hst
          have H1 := Lib.hid h1
          clear h1
          clear hst HE
          by_cases h3 : btN l k < 32
          all_goals
            have h4 := h2
            have H2 := Lib.hid h2
            clear h2
            go_wp2_with fail
            (try rw [Exit.noGoto_ret])
            refine bodyPost_ret (v := .tuple #[.slice none 0 0, .agg #[.int .i64 3, .int .i64 k]]) (by simp [results, Tryd.results19, go_sem, f0, f1]) rfl ?_
            rw [HF.out]
            exact ⟨none, 0, rfl, IntsAt.nil, bSet2 hw (Nat.le_refl _) _ _⟩
        rw [if_neg h2] at hst
        have p2 : 32 ≤ btN l k := by omega
        have p3 : btN l k ≤ 126 := by omega
        by_cases h3 : btN l k = 92
        · rw [if_neg (fun h => h h3)] at hst
          have p4 : ((btN l k : Int) != 92) = false := by simp; omega
          have hsl := strSliceLo l (Nat.le_of_lt hlt)
          have hdl : (l.drop k).length = l.length - k := List.length_drop
          have hn := escR_n (l.drop k) (by rw [hdl]; omega)
          have hcr := escR_c (l.drop k)
          have HC := Lib.hid (fun w' => esEscaped (l.drop k) w' (by rw [hdl]; omega) (by rw [hdl]; omega))
          obtain ⟨c, n, ok, hr⟩ : ∃ c n ok, escR (l.drop k) = (c, n, ok) := ⟨_, _, _, rfl⟩
          rw [hr] at hst hn hcr
          rw [hr] at HC
          rw [hdl] at hn
          dsimp only at hst hn hcr
          by_cases hn0 : n = 0
          · subst hn0
            rw [if_pos rfl] at hst
            have HF := Lib.hid hst
            have H1 := Lib.hid h1
            have H2 := Lib.hid h2
            have H3 := Lib.hid h3
            have Hr := Lib.hid hr
            have Hdl := Lib.hid hdl
            clear h1 h2 h3 hr hdl
            clear hst HE hn
            go_wp2_with fail
            refine (HC.out _).mono ?_
            rintro e w' ⟨rfl, rfl⟩
            unfold escV
            go_wp2_with fail
            (try rw [Exit.noGoto_ret])
            refine bodyPost_ret (v := .tuple #[.slice none 0 0, .agg #[.int .i64 3, .int .i64 k]]) (by simp [results, Tryd.results19, go_sem, f0, f1]) rfl ?_
            rw [HF.out]
            exact ⟨none, 0, rfl, IntsAt.nil, bSet2 hw (Nat.le_refl _) _ _⟩
          rw [if_neg hn0] at hst
          have p5 : (n == 0) = false := by simpa using hn0
          cases ok
          · rw [if_pos rfl] at hst
            have HF := Lib.hid hst
            have H1 := Lib.hid h1
            have H2 := Lib.hid h2
            have H3 := Lib.hid h3
            have Hr := Lib.hid hr
            have Hdl := Lib.hid hdl
            have Hn0 := Lib.hid hn0
            have Hn := Lib.hid hn
            clear h1 h2 h3 hr hdl hn0 hn
            clear hst HE
            go_wp2_with fail
            refine (HC.out _).mono ?_
            rintro e w' ⟨rfl, rfl⟩
            unfold escV
            go_wp2_with fail
            (try rw [Exit.noGoto_ret])
            refine bodyPost_ret (v := .tuple #[.slice none 0 0, .agg #[.int .i64 3, .int .i64 l.length]]) (by simp [results, Tryd.results19, go_sem, f0, f1]) rfl ?_
            rw [HF.out]
            exact ⟨none, 0, rfl, IntsAt.nil, bSet2 hw (Nat.le_refl _) _ _⟩
          · rw [if_neg (by simp)] at hst
            have hn1 : 1 ≤ n := by rcases hn with h | h; exact absurd h hn0; exact h.1
            have hn2 : n ≤ l.length - k := by rcases hn with h | h; exact absurd h hn0; omega
            obtain ⟨m, rfl⟩ := Int.eq_ofNat_of_zero_le (show 0 ≤ n by omega)
            have hn3 : k + m ≤ l.length := by omega
            have hn4 : 1 ≤ m := by omega
            rw [Int.toNat_natCast, scanS_skip _ _ _ _ (by rw [List.length_drop]; omega), List.drop_drop, show k + 1 + (m - 1) = k + m by omega] at hst
            have HF := Lib.hid hst
            have H1 := Lib.hid h1
            have H2 := Lib.hid h2
            have H3 := Lib.hid h3
            have Hr := Lib.hid hr
            have Hdl := Lib.hid hdl
            have Hn0 := Lib.hid hn0
            have Hn := Lib.hid hn
            clear h1 h2 h3 hr hdl hn0 hn
            clear hst HE
            go_wp2_with fail
            refine (HC.out _).mono ?_
            rintro e w' ⟨rfl, rfl⟩
            unfold escV
            go_wp2_with (at_builtin; refine wpI rfl _ _ rfl (w.heap.size + 1) rfl (HO.out.keep (bBox _ _)) [c] rfl (ints_new _ _ _) (by simp) ?c1 ?c2 ?_)
            case c1 => simp; omega
            case c2 => simp; omega
            intro v' w3 hown3 hb3
            have hb4 := hb3 _ (hbr.alloc hsz _)
            clear hb3
            go_wp2_with fail
            go_roundw
            case rel => exact ⟨k + m, _, hn3, by go_num, hown3, by simp; omega, HF, hb4⟩
            case measure => simp [intOf]; omega
        · rw [if_pos h3] at hst
          have p4 : ((btN l k : Int) != 92) = true := by simp; omega
          have HF := Lib.hid hst
          have H1 := Lib.hid h1
          have H2 := Lib.hid h2
          have H3 := Lib.hid h3
          clear h1 h2 h3
          clear hst HE
          go_wp2_with (at_builtin; refine wpI rfl _ _ rfl (w.heap.size + 1) rfl (HO.out.keep (bBox _ _)) [(btN l k : Int)] rfl (ints_new _ _ _) (by simp) ?c3 ?c4 ?_)
          case c3 => simp; omega
          case c4 => simp; omega
          intro v' w3 hown3 hb3
          have hb4 := hb3 _ (hbr.alloc hsz _)
          clear hb3
          go_wp2_with fail
          go_roundw
          case rel => exact ⟨k + 1, _, by omega, by go_num, hown3, by simp; omega, HF, hb4⟩
          case measure => simp [intOf]; omega
      · have hki : ¬ (k : Int) < l.length := by omega
        have HF := Lib.hid (scan_end (by omega) hk HE.out)
        have p2 : (((k : Int) + 1) != l.length) = true := by simp; omega
        have p3 : (l.length : Int) ≤ k + 1 := by omega
        clear HE
        go_wp2_with fail
        (try rw [Exit.noGoto_ret])
        refine bodyPost_ret (v := .tuple #[.slice none 0 0, .agg #[.int .i64 3, .int .i64 l.length]]) (by simp [results, Tryd.results19, go_sem, f0, f1]; omega) rfl ?_
        rw [HF.out]
        exact ⟨none, 0, rfl, IntsAt.nil, bSet2 hw (Nat.le_refl _) _ _⟩
  · have HV := Lib.hid (show parseE l = ([], 3, 0) by rw [parseE, if_neg hl, if_pos (.inr h34)])
    have q1 : ((btN l 0 : Int) != 34) = true := by simp; omega
    have He := Lib.hid he
    have H34 := Lib.hid h34
    clear he h34
    go_enter Tryd.func19, Tryd.ntmps19
    go_wp2_with fail
    go_step3
    go_wp2_with fail
    (try rw [Exit.noGoto_ret])
    refine bodyPost_ret (v := .tuple #[.slice none 0 0, .agg #[.int .i64 3, .int .i64 0]]) (by simp [results, Tryd.results19, go_sem]) rfl ?_
    rw [HV.out]
    exact ⟨none, 0, rfl, IntsAt.nil, bBox _ _⟩
end Go.Proofs.YtgkogbjlbcllmaaDoor
