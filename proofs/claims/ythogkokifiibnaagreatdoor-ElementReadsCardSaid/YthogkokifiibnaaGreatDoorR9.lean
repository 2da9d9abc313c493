/- The reference: Cut, ParseCodes, numeral, bare, base, group -/
import Derived.Test.YthogkokifiibnaaGreatDoorR7
import Derived.Test.YthogkokifiibnaaGreatDoorP11
namespace Go.Proofs.YthogkokifiibnaaGreatDoor
open Go.RowKit Go.Sort

set_option maxHeartbeats 1000000 in
set_option maxRecDepth 100000 in
theorem rfCut (c : UInt8) (l : List UInt8) (w : World) (hl : l.length ≤ 65536) :
    Calls Tryz.prog 42 #[.string ⟨l.toArray⟩, .int .u8 c.toNat] w fun e w' => (∃ A cp, e = .returned (.slice A (splitL c l).length cp) ∧ OwnS w' w.heap.size (.slice A (splitL c l).length cp) (splitL c l)) ∧ Below w.heap.size w w' := by
  have hcn : c.toNat < 256 := UInt8.toNat_lt c
  go_enter Tryz.func42, Tryz.ntmps42
  go_wp2_with fail
  go_loopw [5, 6, 7] (fun v f i wr => ∃ (j k : Nat) (done : List (List UInt8)), j ≤ k ∧ k ≤ l.length ∧ done.length ≤ k ∧ f = .int .i64 j ∧ i = .int .i64 k ∧ Hid (OwnS wr w.heap.size v done) ∧ Hid (splitL c l = done ++ glue (seg l j k) (splitL c (l.drop k))) ∧ Below w.heap.size w wr) (fun _ _ i _ => l.length - (intOf i).toNat)
  case atStart => exact ⟨0, 0, [], by omega, by omega, by simp, rfl, rfl, Lib.hid (OwnS.nil _ _), Lib.hid (by rw [seg_self, glue_nil]; rfl), Below.refl _ _⟩
  case round =>
    obtain ⟨j, k, done, hjk, hk, hdl, rfl, rfl, HO, HS, hbr⟩ := hrel
    have hsz := hbr.size
    by_cases hlt : k < l.length
    · have hbt := btN_lt l k
      have hki : (k : Int) < l.length := by omega
      have hji : (j : Int) ≤ k := by omega
      have hki2 : (k : Int) ≤ l.length := by omega
      by_cases hb : btN l k = c.toNat
      · have hb' : ((btN l k : Int) == (c.toNat : Int)) = true := by simp; omega
        have hb2 : l[k] = c := by
          rw [btN_get hlt] at hb
          exact UInt8.toNat_inj.1 hb
        have HS' := Lib.hid (split_hit hlt hb2 HS.out)
        clear hb2 hb
        go_wp2_with (at_builtin; refine wpS rfl _ _ rfl w.heap.size rfl HO.out (seg l j k) rfl ?c1 hsz ?_)
        case c1 => omega
        intro v' w2 HO' hb3
        have hb2 := hb3 w hbr
        clear hb3
        go_wp2_with fail
        go_roundw
        case rel => exact ⟨k + 1, k + 1, _, by omega, by omega, by simp; omega, by go_num, by go_num, HO', HS', hb2⟩
        case measure => simp [intOf]; omega
      · have hb' : ((btN l k : Int) == (c.toNat : Int)) = false := by simp; omega
        have hb2 : ¬ l[k] = c := by
          intro e
          rw [btN_get hlt, e] at hb
          exact hb rfl
        have HS' := Lib.hid (split_miss hjk hlt hb2 HS.out)
        clear hb2 hb
        go_wp2_with fail
        go_roundw
        case rel => exact ⟨j, k + 1, done, by omega, by omega, by omega, rfl, by go_num, HO, HS', hbr⟩
        case measure => simp [intOf]; omega
    · obtain rfl : k = l.length := by omega
      have HS' := Lib.hid (split_end HS.out)
      have hsl := strLo l hjk
      have HG := Lib.hid (seg_end l j)
      clear HS
      rw [HG.out] at HS'
      generalize l.drop j = d at hsl HS'
      go_wp2_with (at_builtin; refine wpS rfl _ _ rfl w.heap.size rfl HO.out d rfl ?c2 hsz ?_)
      case c2 => omega
      intro v' w2 HO' hb3
      have hb2 := hb3 w hbr
      clear hb3
      obtain ⟨A', c', rfl, _, _⟩ := HO'.out.form
      go_wp2_with fail
      go_ret
      rw [HS'.out]
      exact ⟨⟨A', c', rfl, HO'.out⟩, hb2⟩

set_option maxHeartbeats 2000000 in
set_option maxRecDepth 100000 in
theorem rfParseCodes (l : List UInt8) (w : World) (hl : l.length ≤ 65536) :
    Calls Tryz.prog 68 #[.string ⟨l.toArray⟩] w (IntsErr (parseCodesR l) w) := by
  have HS := Lib.hid (rfCut 32 l w hl)
  have hple := splitL_piece_le 32 l
  have hpl : (splitL 32 l).length ≤ 65537 := by rw [splitL_length]; have := List.count_le_length (a := (32 : UInt8)) (l := l); omega
  have hp0 : 0 < (splitL 32 l).length := by rw [splitL_length]; omega
  by_cases he : l = []
  · subst he
    have HV := Lib.hid (show parseCodesR [] = ([], 0) by rfl)
    generalize splitL 32 [] = ps at HS hple hpl hp0
    have Hple := Lib.hid hple
    clear hple
    have p0 : decide (0 < ps.length) = true := by simpa using hp0
    go_enter Tryz.func68, Tryz.ntmps68
    go_wp2_with fail
    refine HS.out.mono ?_
    rintro e w1 ⟨⟨A, cp, rfl, _⟩, hb1⟩
    go_wp2_with fail
    refine wp_loop_rounds 1 ?_
    rw [rounds_succ]
    go_wp2_with fail
    go_ret2
    rw [HV.out]
    exact ⟨none, 0, rfl, OwnI.nil _ _, hb1⟩
  have hem : l.isEmpty = false := by cases l with | nil => exact absurd rfl he | cons a b => rfl
  have HV := Lib.hid (show parseCodesR l = codesFrom (splitL 32 l) [] by rw [parseCodesR, if_neg he])
  generalize splitL 32 l = ps at HV HS hple hpl hp0
  have He := Lib.hid he
  have Hple := Lib.hid hple
  clear he hple
  go_enter Tryz.func68, Tryz.ntmps68
  go_wp2_with fail
  refine HS.out.mono ?_
  rintro e w1 ⟨⟨A, cp, rfl, hos⟩, hw1⟩
  have hst := hos.strs
  have Hst := Lib.hid hst
  clear hst
  clear hos
  go_wp2_with fail
  go_loopw [4, 6] (fun o i wr => ∃ (k : Nat) (acc : List Int), k ≤ ps.length ∧ i = .int .i64 k ∧ Hid (OwnI wr w1.heap.size o acc) ∧ acc.length ≤ k ∧ Hid (parseCodesR l = codesFrom (ps.drop k) acc) ∧ Below w1.heap.size w1 wr) (fun _ i _ => ps.length - (intOf i).toNat)
  case atStart => exact ⟨0, [], Nat.zero_le _, rfl, Lib.hid (OwnI.nil _ _), by simp, HV, Below.refl _ _⟩
  case round =>
    obtain ⟨k, acc, hk, rfl, HO, hacc, HC, hbr⟩ := hrel
    by_cases hlt : k < ps.length
    · obtain ⟨b, off, rfl, hblt, hcp⟩ := (Hst.out.keep hbr).at_ hlt
      have p1 : decide (k < ps.length) = true := by simpa using hlt
      have hki : (k : Int) < ps.length := by omega
      have hpm := Hple.out _ (piece_mem hlt)
      have HP := Lib.hid (rfParse (piece ps k) wr (by omega))
      cases hp : parseCp (piece ps k) with
      | none =>
        have HR := Lib.hid (codes_bad hlt HC.out hp)
        rw [parseV_none hp] at HP
        have Hp := Lib.hid hp
        clear hp
        generalize piece ps k = pk at hcp hpm HP
        go_wp2_with fail
        refine HP.out.mono ?_
        rintro e w2 ⟨rfl, rfl⟩
        go_wp2_with fail
        go_ret2
        rw [HR.out]
        exact ⟨none, 0, rfl, OwnI.nil _ _, bUp hw1 hbr⟩
      | some c =>
        have HR := Lib.hid (codes_good hlt HC.out hp)
        rw [parseV_some hp] at HP
        have Hp := Lib.hid hp
        clear hp
        generalize piece ps k = pk at hcp hpm HP
        have hsz := hbr.size
        go_wp2_with fail
        refine HP.out.mono ?_
        rintro e w2 ⟨rfl, rfl⟩
        go_wp2_with (at_builtin; refine wpI rfl _ _ rfl w1.heap.size rfl (HO.out.keep (bBox _ _)) [c] rfl (ints_new _ _ _) (by simp) ?c1 ?c2 ?_)
        case c1 => simp; omega
        case c2 => simp; omega
        intro v' w3 hown3 hb3
        have hb4 := hb3 w1 (bUp hbr (bBox _ _))
        clear hb3
        go_wp2_with fail
        go_roundw
        case rel => exact ⟨k + 1, _, by omega, by go_num, hown3, by simp; omega, HR, hb4⟩
        case measure => simp [intOf]; omega
    · have HR := Lib.hid (show parseCodesR l = (acc, 0) by rw [HC.out, List.drop_of_length_le (by omega)]; rfl)
      have p1 : decide (k < ps.length) = false := by simpa using hlt
      obtain ⟨A', c', rfl⟩ := HO.out.form
      go_wp2_with fail
      go_ret2
      rw [HR.out]
      exact ⟨A', c', rfl, HO.out.mono hw1.size, bUp hw1 hbr⟩

/-- what numeral gives back -/
def NumOut (l : List UInt8) (w : World) (e : Ending) (w' : World) : Prop :=
  ∃ n : Int, e = .returned (.tuple #[.int .i64 n, .bool (numP l).isSome]) ∧ (∀ v, numP l = some v → n = v) ∧ Below w.heap.size w w'
set_option maxHeartbeats 4000000 in
set_option maxRecDepth 100000 in
theorem rfNumeral (l : List UInt8) (w : World) (hl : l.length ≤ 65536) :
    Calls Tryz.prog 67 #[.string ⟨l.toArray⟩] w (NumOut l w) := by
  go_enter Tryz.func67, Tryz.ntmps67
  go_wp2_with fail
  go_loop [4, 5] (fun v i => ∃ (k n : Nat), k ≤ l.length ∧ i = .int .i64 k ∧ v = .int .i64 n ∧ n ≤ 9223372036854775807 ∧ Hid (n = digV 0 (l.take k))) (fun _ i => l.length - (intOf i).toNat)
  case atStart => exact ⟨0, 0, Nat.zero_le _, rfl, rfl, by omega, Lib.hid rfl⟩
  case round =>
    obtain ⟨k, n, hk, rfl, rfl, hn, HV⟩ := hrel
    by_cases hlt : k < l.length
    · have hbt := btN_lt l k
      have hki : (k : Int) < l.length := by omega
      have HB := Lib.hid (fun h => num_bad hlt h)
      have HO := Lib.hid (fun h => num_over hlt h)
      have HS := Lib.hid (dv_snoc hlt)
      rw [← HV.out] at HO HS
      have hx : ∃ x : Int, (btN l k : Int) = x := ⟨_, rfl⟩
      obtain ⟨x, hx⟩ := hx
      by_cases h48 : x < 48
      · have c1 : decide (x < 48) = true := decide_eq_true h48
        have HN := Lib.hid (HB.out (by omega))
        have H48 := Lib.hid h48
        clear h48
        go_wp2_with fail
        go_ret2
        exact ⟨0, by rw [HN.out]; rfl, (fun v h => by rw [HN.out] at h; cases h), Below.refl _ _⟩
      · have c1 : decide (x < 48) = false := decide_eq_false h48
        by_cases h57 : 57 < x
        · have c2 : decide (57 < x) = true := decide_eq_true h57
          have HN := Lib.hid (HB.out (by omega))
          have H48 := Lib.hid h48
          have H57 := Lib.hid h57
          clear h48 h57
          go_wp2_with fail
          go_ret2
          exact ⟨0, by rw [HN.out]; rfl, (fun v h => by rw [HN.out] at h; cases h), Below.refl _ _⟩
        · have c2 : decide (57 < x) = false := decide_eq_false h57
          have hx0 : 48 ≤ x := by omega
          have hx1 : x ≤ 57 := by omega
          by_cases hov : (9223372036854775807 - (x - 48)) / 10 < (n : Int)
          · have c3 : decide ((9223372036854775807 - (x - 48)) / 10 < (n : Int)) = true := decide_eq_true hov
            have HN := Lib.hid (HO.out (by omega))
            have H48 := Lib.hid h48
            have H57 := Lib.hid h57
            have Hov := Lib.hid hov
            clear h48 h57 hov
            go_wp2_with fail
            go_ret2
            exact ⟨0, by rw [HN.out]; rfl, (fun v h => by rw [HN.out] at h; cases h), Below.refl _ _⟩
          · have c3 : decide ((9223372036854775807 - (x - 48)) / 10 < (n : Int)) = false := decide_eq_false hov
            have hsum : 10 * (n : Int) + (x - 48) ≤ 9223372036854775807 := by omega
            have hs10 : 10 * (n : Int) ≤ 9223372036854775807 := by omega
            have HQ := Lib.hid (show ((10 * n + (btN l k - 48) : Nat) : Int) = 10 * (n : Int) + (x - 48) by omega)
            have H48 := Lib.hid h48
            have H57 := Lib.hid h57
            have Hov := Lib.hid hov
            clear h48 h57 hov
            go_wp2_with fail
            go_round
            case rel => exact ⟨k + 1, 10 * n + (btN l k - 48), by omega, by go_num, by rw [HQ.out], by have := HQ.out; omega, Lib.hid HS.out.symm⟩
            case measure => simp [intOf]; omega
    · obtain rfl : k = l.length := by omega
      have hki : ¬ (l.length : Int) < l.length := by omega
      have hV := HV.out
      rw [List.take_length] at hV
      have hE := num_end l (by omega)
      rw [← hV] at hE
      by_cases h0 : l = []
      · subst h0
        have HN := Lib.hid num_nil
        have HV := Lib.hid hV
        have HE := Lib.hid hE
        clear hV hE
        go_wp2_with fail
        go_ret2
        exact ⟨n, by rw [HN.out]; rfl, (fun v h => by rw [HN.out] at h; cases h), Below.refl _ _⟩
      · have hpos : 0 < l.length := by cases l with | nil => exact absurd rfl h0 | cons => simp
        have c1 : decide ((0 : Int) < (l.length : Int)) = true := decide_eq_true (by omega)
        have HD := Lib.hid (fun w' => rfDec (n : Int) w' (by omega) (by omega))
        by_cases hit : Lib.itoa (n : Int) = l
        · rw [if_pos hit] at hE
          rw [hit] at HD
          have HV := Lib.hid hV
          have HE := Lib.hid hE
          have Hit := Lib.hid hit
          have H0 := Lib.hid h0
          clear hV hE hit h0
          go_wp2_with fail
          refine (HD.out _).mono ?_
          rintro e w1 ⟨rfl, hb1⟩
          go_wp2_with fail
          go_ret2
          exact ⟨n, by rw [HE.out]; rfl, (fun v h => by rw [HE.out] at h; injection h), hb1⟩
        · rw [if_neg hit] at hE
          have hit2 : (Lib.itoa (n : Int) == l) = false := by simp [hit]
          have hil := Lib.itoa_length_le (n : Int) (by omega) (by omega)
          generalize Lib.itoa (n : Int) = iv at HD hit2 hit hil
          have HV := Lib.hid hV
          have HE := Lib.hid hE
          have Hit := Lib.hid hit
          have H0 := Lib.hid h0
          clear hV hE hit h0
          go_wp2_with fail
          refine (HD.out _).mono ?_
          rintro e w1 ⟨rfl, hb1⟩
          go_wp2_with fail
          go_ret2
          exact ⟨n, by rw [HE.out]; rfl, (fun v h => by rw [HE.out] at h; cases h), hb1⟩

theorem strHi (l : List UInt8) {j : Nat} (h1 : j ≤ l.length) (w : World) : (Instr.slice 9 (.string ⟨l.toArray⟩) none (some (.int .i64 j)) none).run Tryz.prog w = .ok (.string ⟨(seg l 0 j).toArray⟩) w := by
  have h3 : (j : Int) ≤ l.length := by omega
  simp [go_sem, Tryz.underlying9, h3, seg]
theorem idxAt (l : List UInt8) {j : Nat} (h1 : j < l.length) (w : World) : (Instr.index 9 (.string ⟨l.toArray⟩) (.int .i64 j)).run Tryz.prog w = .ok (.int .u8 (btN l j)) w := by
  have h3 : (j : Int) < l.length := by omega
  simp [go_sem, Tryz.underlying9, h3]
set_option maxHeartbeats 4000000 in
set_option maxRecDepth 100000 in
theorem rfBare (l : List UInt8) (w : World) (hl : l.length ≤ 65536) :
    Calls Tryz.prog 43 #[.string ⟨l.toArray⟩] w fun e w' => e = .returned (.string ⟨(contentP l).toArray⟩) ∧ w = w' := by
  go_enter Tryz.func43, Tryz.ntmps43
  go_wp2_with fail
  go_loop [0, 3] (fun v i => ∃ (k : Nat), k ≤ l.length ∧ v = .string ⟨l.toArray⟩ ∧ i = .int .i64 k ∧ Hid ((35 : UInt8) ∉ l.take k)) (fun _ i => l.length - (intOf i).toNat)
  case atStart => exact ⟨0, Nat.zero_le _, rfl, rfl, Lib.hid (by simp)⟩
  case round =>
    obtain ⟨k, hk, rfl, rfl, HK⟩ := hrel
    by_cases hlt : k < l.length
    · have hbt := btN_lt l k
      have hki : (k : Int) < l.length := by omega
      by_cases hb : btN l k = 35
      · have e1 : ((btN l k : Int) == 35) = true := by simp; omega
        have HC := Lib.hid (content_hit hlt HK.out hb)
        have hsl := strHi l (j := k) (by omega)
        have hsg : (seg l 0 k).length ≤ 65536 := by rw [seg_length (by omega)]; omega
        generalize seg l 0 k = x0 at HC hsl hsg
        have Hb := Lib.hid hb
        clear hb
        clear HK
        go_wp2_with fail
        go_loop [0] (fun v => ∃ x : List UInt8, v = .string ⟨x.toArray⟩ ∧ x.length ≤ 65536 ∧ Hid (contentP l = Lib.trimRightB x 32)) (fun v => strLen v)
        case atStart => exact ⟨x0, rfl, hsg, HC⟩
        case round =>
          obtain ⟨x, rfl, hx, HX⟩ := hrel
          clear hsl HC
          by_cases hpos : 0 < x.length
          · have c1 : decide ((0 : Int) < (x.length : Int)) = true := decide_eq_true (by omega)
            have hidx : ∀ w', (Instr.index 9 (.string ⟨x.toArray⟩) (.int .i64 ((x.length : Int) - 1))).run Tryz.prog w' = .ok (.int .u8 (btN x (x.length - 1))) w' := fun w' => by
              have := idxAt x (j := x.length - 1) (by omega) w'
              rwa [show ((x.length - 1 : Nat) : Int) = (x.length : Int) - 1 by omega] at this
            have hcut : ∀ w', (Instr.slice 9 (.string ⟨x.toArray⟩) none (some (.int .i64 ((x.length : Int) - 1))) none).run Tryz.prog w' = .ok (.string ⟨(seg x 0 (x.length - 1)).toArray⟩) w' := fun w' => by
              have := strHi x (j := x.length - 1) (by omega) w'
              rwa [show ((x.length - 1 : Nat) : Int) = (x.length : Int) - 1 by omega] at this
            have hsl2 : (seg x 0 (x.length - 1)).length < x.length := by rw [seg_length (by omega)]; omega
            have hb2 := btN_lt x (x.length - 1)
            have HT := Lib.hid (fun h => trim_drop hpos h)
            have HT2 := Lib.hid (fun h => trim_stop (x := x) (fun _ => h))
            generalize btN x (x.length - 1) = bl at hidx hb2 HT HT2
            generalize seg x 0 (x.length - 1) = x1 at hcut hsl2 HT
            by_cases h32 : bl = 32
            · have e2 : ((bl : Int) == 32) = true := by simp; omega
              have HX2 := Lib.hid (HX.out.trans (HT.out h32))
              have H32 := Lib.hid h32
              clear h32
              clear HT HT2
              go_wp2_with fail
              go_round
              case rel => exact ⟨x1, rfl, by omega, HX2⟩
              case measure => rw [strLen_mk, strLen_mk]; omega
            · have e2 : ((bl : Int) == 32) = false := by simp; omega
              have HX2 := Lib.hid (HX.out.trans (HT2.out h32))
              have H32 := Lib.hid h32
              clear h32
              clear HT HT2
              go_wp2_with fail
              go_ret
              exact ⟨by rw [HX2.out]; rfl, rfl⟩
          · obtain rfl : x = [] := List.length_eq_zero_iff.1 (by omega)
            have HX2 := Lib.hid (HX.out.trans (trim_stop (x := []) (fun h => absurd h (by simp))))
            go_wp2_with fail
            go_ret
            exact ⟨by rw [HX2.out]; rfl, rfl⟩
      · have e1 : ((btN l k : Int) == 35) = false := by simp; omega
        have HK2 := Lib.hid (content_step hlt HK.out hb)
        have Hb := Lib.hid hb
        clear hb
        go_wp2_with fail
        go_round
        case rel => exact ⟨k + 1, by omega, rfl, by go_num, HK2⟩
        case measure => simp [intOf]; omega
    · obtain rfl : k = l.length := by omega
      have hki : ¬ (l.length : Int) < l.length := by omega
      have hC := content_none (by have := HK.out; rwa [List.take_length] at this)
      have HC := Lib.hid hC
      clear hC
      go_wp2_with fail
      go_ret
      exact ⟨by rw [HC.out]; rfl, rfl⟩
end Go.Proofs.YthogkokifiibnaaGreatDoor
