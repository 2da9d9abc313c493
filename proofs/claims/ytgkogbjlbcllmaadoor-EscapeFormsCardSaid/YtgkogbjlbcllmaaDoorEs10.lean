/- ref02.Cut, ref05.ParseCodes; the laws EscapeReads and EscapeCodes -/
import Derived.Test.YtgkogbjlbcllmaaDoorEs9
import Derived.Test.YtgkogbjlbcllmaaDoorEsL1
namespace Go.Proofs.YtgkogbjlbcllmaaDoor
open Go.RowKit Go.Sort

set_option maxHeartbeats 1000000 in
set_option maxRecDepth 100000 in
theorem rfCut (c : UInt8) (l : List UInt8) (w : World) (hl : l.length ≤ 65536) :
    Calls Tryd.prog 31 #[.string ⟨l.toArray⟩, .int .u8 c.toNat] w fun e w' => (∃ A cp, e = .returned (.slice A (splitL c l).length cp) ∧ StrsAt w' A (splitL c l) ∧ ∀ b off, A = some ⟨b, off, none⟩ → w.heap.size ≤ b) ∧ Below w.heap.size w w' := by
  have hcn : c.toNat < 256 := UInt8.toNat_lt c
  go_enter Tryd.func31, Tryd.ntmps31
  go_wp2_with fail
  go_loopw [5, 6, 7] (fun v f i wr => ∃ (j k : Nat) (done : List (List UInt8)), j ≤ k ∧ k ≤ l.length ∧ done.length ≤ k ∧ f = .int .i64 j ∧ i = .int .i64 k ∧ Hid (OwnS wr w.heap.size v done) ∧ Hid (splitL c l = done ++ glue (seg l j k) (splitL c (l.drop k))) ∧ Below w.heap.size w wr) (fun _ _ i _ => l.length - (intOf i).toNat)
  case atStart => exact ⟨0, 0, [], by omega, by omega, by simp, rfl, rfl, Lib.hid (OwnS.nil _ _), Lib.hid (by rw [seg_self, glue_nil]; rfl), Below.refl _ _⟩
  case round =>
    obtain ⟨j, k, done, hjk, hk, hdl, rfl, rfl, HO, HS, hbr⟩ := hrel
    have hsz := hbr.size
    by_cases hlt : k < l.length
    · have hbt := btN_lt l k
      have hki : (k : Int) < l.length := by omega
      have hji : (j : Int) ≤ k := by omega
      have hki2 : (k : Int) ≤ l.length := by omega
      by_cases hb : btN l k = c.toNat
      · have hb' : ((btN l k : Int) == (c.toNat : Int)) = true := by simp; omega
        have hb2 : l[k] = c := by
          rw [btN_get hlt] at hb
          exact UInt8.toNat_inj.1 hb
        have HS' := Lib.hid (split_hit hlt hb2 HS.out)
        clear hb2 hb
        go_wp2_with (at_builtin; refine wpS rfl _ _ rfl w.heap.size rfl HO.out (seg l j k) rfl ?c1 hsz ?_)
        case c1 => omega
        intro v' w2 HO' hb3
        have hb2 := hb3 w hbr
        clear hb3
        go_wp2_with fail
        go_roundw
        case rel => exact ⟨k + 1, k + 1, _, by omega, by omega, by simp; omega, by go_num, by go_num, HO', HS', hb2⟩
        case measure => simp [intOf]; omega
      · have hb' : ((btN l k : Int) == (c.toNat : Int)) = false := by simp; omega
        have hb2 : ¬ l[k] = c := by
          intro e
          rw [btN_get hlt, e] at hb
          exact hb rfl
        have HS' := Lib.hid (split_miss hjk hlt hb2 HS.out)
        clear hb2 hb
        go_wp2_with fail
        go_roundw
        case rel => exact ⟨j, k + 1, done, by omega, by omega, by omega, rfl, by go_num, HO, HS', hbr⟩
        case measure => simp [intOf]; omega
    · obtain rfl : k = l.length := by omega
      have HS' := Lib.hid (split_end HS.out)
      have hsl := strSliceLo l hjk
      have HG := Lib.hid (seg_end l j)
      clear HS
      rw [HG.out] at HS'
      generalize l.drop j = d at hsl HS'
      go_wp2_with (at_builtin; refine wpS rfl _ _ rfl w.heap.size rfl HO.out d rfl ?c2 hsz ?_)
      case c2 => omega
      intro v' w2 HO' hb3
      have hb2 := hb3 w hbr
      clear hb3
      obtain ⟨A', c', rfl, _, _⟩ := HO'.out.form
      go_wp2_with fail
      go_ret
      rw [HS'.out]
      exact ⟨⟨A', c', rfl, HO'.out.strs, HO'.out.blk⟩, hb2⟩

set_option maxHeartbeats 2000000 in
set_option maxRecDepth 100000 in
theorem rfParseCodes (l : List UInt8) (w : World) (hl : l.length ≤ 65536) :
    Calls Tryd.prog 16 #[.string ⟨l.toArray⟩] w (IntsErr (parseCodesR l) w) := by
  have HS := Lib.hid (rfCut 32 l w hl)
  have hple := splitL_piece_le 32 l
  have hpl : (splitL 32 l).length ≤ 65537 := by rw [splitL_length]; have := List.count_le_length (a := (32 : UInt8)) (l := l); omega
  have hp0 : 0 < (splitL 32 l).length := by rw [splitL_length]; omega
  by_cases he : l = []
  · subst he
    have HV := Lib.hid (show parseCodesR [] = ([], 0) by rfl)
    generalize splitL 32 [] = ps at HS hple hpl hp0
    have Hple := Lib.hid hple
    clear hple
    have p0 : decide (0 < ps.length) = true := by simpa using hp0
    go_enter Tryd.func16, Tryd.ntmps16
    go_wp2_with fail
    refine HS.out.mono ?_
    rintro e w1 ⟨⟨A, cp, rfl, _, _⟩, hb1⟩
    go_wp2_with fail
    refine wp_loop_rounds 1 ?_
    rw [rounds_succ]
    go_wp2_with fail
    go_ret2
    rw [HV.out]
    exact ⟨none, 0, rfl, IntsAt.nil, hb1⟩
  have hem : l.isEmpty = false := by cases l with | nil => exact absurd rfl he | cons a b => rfl
  have HV := Lib.hid (show parseCodesR l = codesFrom (splitL 32 l) [] by rw [parseCodesR, if_neg he])
  generalize splitL 32 l = ps at HV HS hple hpl hp0
  have He := Lib.hid he
  have Hple := Lib.hid hple
  clear he hple
  go_enter Tryd.func16, Tryd.ntmps16
  go_wp2_with fail
  refine HS.out.mono ?_
  rintro e w1 ⟨⟨A, cp, rfl, hst, _⟩, hw1⟩
  have Hst := Lib.hid hst
  clear hst
  go_wp2_with fail
  go_loopw [4, 6] (fun o i wr => ∃ (k : Nat) (acc : List Int), k ≤ ps.length ∧ i = .int .i64 k ∧ Hid (OwnI wr w1.heap.size o acc) ∧ acc.length ≤ k ∧ Hid (parseCodesR l = codesFrom (ps.drop k) acc) ∧ Below w1.heap.size w1 wr) (fun _ i _ => ps.length - (intOf i).toNat)
  case atStart => exact ⟨0, [], Nat.zero_le _, rfl, Lib.hid (OwnI.nil _ _), by simp, HV, Below.refl _ _⟩
  case round =>
    obtain ⟨k, acc, hk, rfl, HO, hacc, HC, hbr⟩ := hrel
    by_cases hlt : k < ps.length
    · obtain ⟨b, off, rfl, hblt, hcp⟩ := (show ∃ b off, A = some ⟨b, off, none⟩ ∧ b < wr.heap.size ∧ wr.cell? ⟨b, off + k, none⟩ = some (.string ⟨(piece ps k).toArray⟩) by
        obtain ⟨b, off, e, h1, h2⟩ := (Hst.out.keep hbr) (by omega)
        exact ⟨b, off, e, h1, h2 k hlt⟩)
      have p1 : decide (k < ps.length) = true := by simpa using hlt
      have hki : (k : Int) < ps.length := by omega
      have hpm := Hple.out _ (piece_mem hlt)
      have HP := Lib.hid (rfParse (piece ps k) wr (by omega))
      cases hp : parseCp (piece ps k) with
      | none =>
        have HR := Lib.hid (codes_bad hlt HC.out hp)
        rw [parseV_none hp] at HP
        have Hp := Lib.hid hp
        clear hp
        generalize piece ps k = pk at hcp hpm HP
        go_wp2_with fail
        refine HP.out.mono ?_
        rintro e w2 ⟨rfl, rfl⟩
        go_wp2_with fail
        go_ret2
        rw [HR.out]
        exact ⟨none, 0, rfl, IntsAt.nil, bUp hw1 hbr⟩
      | some c =>
        have HR := Lib.hid (codes_good hlt HC.out hp)
        rw [parseV_some hp] at HP
        have Hp := Lib.hid hp
        clear hp
        generalize piece ps k = pk at hcp hpm HP
        have hsz := hbr.size
        go_wp2_with fail
        refine HP.out.mono ?_
        rintro e w2 ⟨rfl, rfl⟩
        go_wp2_with (at_builtin; refine wpI rfl _ _ rfl w1.heap.size rfl (HO.out.keep (bBox _ _)) [c] rfl (ints_new _ _ _) (by simp) ?c1 ?c2 ?_)
        case c1 => simp; omega
        case c2 => simp; omega
        intro v' w3 hown3 hb3
        have hb4 := hb3 w1 (bUp hbr (bBox _ _))
        clear hb3
        go_wp2_with fail
        go_roundw
        case rel => exact ⟨k + 1, _, by omega, by go_num, hown3, by simp; omega, HR, hb4⟩
        case measure => simp [intOf]; omega
    · have HR := Lib.hid (show parseCodesR l = (acc, 0) by rw [HC.out, List.drop_of_length_le (by omega)]; rfl)
      have p1 : decide (k < ps.length) = false := by simpa using hlt
      obtain ⟨A', c', rfl⟩ := HO.out.form
      go_wp2_with fail
      go_ret2
      rw [HR.out]
      exact ⟨A', c', rfl, HO.out.ints, bUp hw1 hbr⟩

theorem codesFrom_len : ∀ (ps : List (List UInt8)) (acc : List Int), (codesFrom ps acc).1.length ≤ acc.length + ps.length
  | [], acc => by simp [codesFrom]
  | p :: ps, acc => by
    unfold codesFrom
    split
    · simp
    · rename_i c _
      have := codesFrom_len ps (acc ++ [c])
      simp at this ⊢
      omega
theorem parseCodesR_len (l : List UInt8) : (parseCodesR l).1.length ≤ l.length + 1 := by
  unfold parseCodesR
  split
  · simp
  · have h1 := codesFrom_len (splitL 32 l) []
    have h2 := List.count_le_length (a := (32 : UInt8)) (l := l)
    rw [splitL_length] at h1
    simp at h1
    omega

set_option maxHeartbeats 1000000 in
set_option maxRecDepth 100000 in
theorem lawReads (l : List UInt8) (w : World) (hl : l.length ≤ 9223372036854775807) (hE : Env w) :
    Calls Tryd.prog 4 #[.string ⟨l.toArray⟩] w fun e w' => e = .returned (.bool true) ∧ Below w.heap.size w w' := by
  by_cases h400 : l.length ≤ 400
  · have hg : decide ((400 : Int) < (l.length : Int)) = false := by simp; omega
    have h1 := esParseCodes l w hE (by omega)
    have h2 := fun w' => rfParseCodes l w' (by omega)
    have hlen := parseCodesR_len l
    generalize parseCodesR l = r at h1 h2 hlen
    obtain ⟨cs, er⟩ := r
    dsimp only at hlen
    have q2 : (er == er) = true := by simp
    have H1 := Lib.hid h1
    have H2 := Lib.hid h2
    have HE := Lib.hid hE
    clear h1 h2 hE
    go_enter Tryd.func4, Tryd.ntmps4
    go_wp2_with fail
    refine H1.out.mono ?_
    rintro e w1 ⟨A, c, rfl, hA, hb1⟩
    dsimp only at hA ⊢
    have HA := Lib.hid hA
    clear hA
    go_wp2_with fail
    refine (H2.out _).mono ?_
    rintro e w2 ⟨B, d, rfl, hB, hb2⟩
    dsimp only at hB ⊢
    have HB := Lib.hid hB
    clear hB
    go_wp2_with fail
    refine (rfSame cs A B c d _ (HA.out.keep hb2) HB.out (by omega)).mono ?_
    rintro e w3 ⟨rfl, hb3⟩
    go_wp2_with fail
    refine (alive05 _ (HE.out.keep (bUp (bUp hb1 hb2) hb3))).mono ?_
    rintro e w4 ⟨rfl, hb4⟩
    go_wp2_with fail
    go_ret
    exact ⟨rfl, bUp (bUp (bUp hb1 hb2) hb3) hb4⟩
  · have hg : decide ((400 : Int) < (l.length : Int)) = true := by simp; omega
    have HE := Lib.hid hE
    clear hE
    go_enter Tryd.func4, Tryd.ntmps4
    go_wp2_with fail
    refine (alive05 _ HE.out).mono ?_
    rintro e w3 ⟨rfl, hb3⟩
    go_wp2_with fail
    go_ret
    exact ⟨rfl, hb3⟩

set_option maxHeartbeats 1000000 in
set_option maxRecDepth 100000 in
theorem lawCodes (zs : List Int) (A : Option Addr) (cap : Nat) (w : World) (hA : IntsAt w A zs) (hl : zs.length ≤ 9223372036854775807) (hE : Env w) :
    Calls Tryd.prog 9 #[.slice A zs.length cap] w fun e w' => e = .returned (.bool true) ∧ Below w.heap.size w w' := by
  by_cases h40 : zs.length ≤ 40
  · have hg : decide ((40 : Int) < (zs.length : Int)) = false := by simp; omega
    have h1 := esCodes zs A cap w hA (by omega) hE.dig
    have h2 := fun w' (hb : Below w.heap.size w w') => rfCodes zs A cap w' (hA.keep hb) (by omega)
    obtain ⟨s, er, hs⟩ : ∃ s er, codesV zs = strErr s er := by
      unfold codesV
      split
      · exact ⟨_, _, rfl⟩
      · exact ⟨_, _, rfl⟩
    rw [hs] at h1 h2
    have q1 : (s == s) = true := by simp
    have q2 : (er == er) = true := by simp
    have H1 := Lib.hid h1
    have H2 := Lib.hid h2
    have HA := Lib.hid hA
    have HE := Lib.hid hE
    have Hs := Lib.hid hs
    clear h1 h2 hA hE hs
    go_enter Tryd.func9, Tryd.ntmps9
    go_wp2_with fail
    refine H1.out.mono ?_
    rintro e w1 ⟨rfl, hb1⟩
    unfold strErr
    go_wp2_with fail
    refine (H2.out _ hb1).mono ?_
    rintro e w2 ⟨rfl, rfl⟩
    unfold strErr
    go_wp2_with fail
    refine (alive05 _ (HE.out.keep hb1)).mono ?_
    rintro e w3 ⟨rfl, hb3⟩
    go_wp2_with fail
    go_ret
    exact ⟨rfl, bUp hb1 hb3⟩
  · have hg : decide ((40 : Int) < (zs.length : Int)) = true := by simp; omega
    have HA := Lib.hid hA
    have HE := Lib.hid hE
    clear hA hE
    go_enter Tryd.func9, Tryd.ntmps9
    go_wp2_with fail
    refine (alive05 _ HE.out).mono ?_
    rintro e w3 ⟨rfl, hb3⟩
    go_wp2_with fail
    go_ret
    exact ⟨rfl, hb3⟩
end Go.Proofs.YtgkogbjlbcllmaaDoor
