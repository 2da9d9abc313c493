/- ElementBack: the walk -/
import Derived.Test.YthogkokifiibnaaDoorElL1
namespace Go.Proofs.YthogkokifiibnaaDoor
open Go.RowKit Go.Sort

theorem rfSmall (ls : List ElemD) (A : Option Addr) (c : Nat) (w : World) (hl : ls.length ≤ 9223372036854775807) :
    Calls Tryd.prog 7 #[.slice A ls.length c] w fun e w' => e = .returned (.bool (decide (ls.length ≤ 16))) ∧ w = w' := by
  by_cases h : ls.length ≤ 16
  all_goals
    go_enter Tryd.func7, Tryd.ntmps7
    go_wp2
    go_ret
    exact ⟨by simp [h]; omega, rfl⟩

set_option maxHeartbeats 4000000 in
set_option maxRecDepth 100000 in
theorem lawEBack (xs : List ElemD) (A : Option Addr) (cap : Nat) (l : List UInt8) (w : World) (hA : ElemsAt w A xs) (hl : xs.length ≤ 9223372036854775807) (hs : l.length ≤ 9223372036854775807) (hE : EnvF w) :
    Calls Tryd.prog 3 #[.slice A xs.length cap, .string ⟨l.toArray⟩] w fun e w' => e = .returned (.bool true) ∧ Below w.heap.size w w' := by
  have HSm := Lib.hid (fun w' => rfSmall xs A cap w' hl)
  by_cases h16 : xs.length ≤ 16
  · rw [decide_eq_true h16] at HSm
    by_cases h600 : l.length ≤ 600
    · have hg : decide ((600 : Int) < (l.length : Int)) = false := by simp; omega
      have HTx := Lib.hid (elText xs A cap w hA (by omega))
      have HPl := Lib.hid (fun w' => elParse l w' (by omega))
      have hpb := parse_back l
      generalize (parseE l).1 = bs at HPl hpb
      generalize (parseE l).2 = ge at HPl hpb
      have q5 : (l == l) = true := by simp
      by_cases c1 : chksE xs = 0
      · have ht : textE xs = (xs.flatMap oneE, 0) := by rw [textE_of, if_pos c1]
        rw [ht] at HTx
        have hfl := flatE_length xs
        have HPt := Lib.hid (fun w' => elParse (xs.flatMap oneE) w' (by omega))
        rw [parse_text c1] at HPt
        dsimp only at HTx HPt
        have hfl2 : (xs.flatMap oneE).length ≤ 300 := by omega
        generalize xs.flatMap oneE = tx at HTx HPt hfl2
        have HSame := Lib.hid (fun w' B c hB => rfSameE xs B A c cap w' hB)
        have HA := Lib.hid hA
        have HE := Lib.hid hE
        have Hpb := Lib.hid hpb
        have Ht := Lib.hid ht
        clear hA hE hpb ht
        clear c1 hfl
        go_enter Tryd.func3, Tryd.ntmps3
        go_wp2_with fail
        refine (HSm.out _).mono ?_
        rintro e w0 ⟨rfl, rfl⟩
        go_wp2_with fail
        refine HTx.out.mono ?_
        rintro e w1 ⟨rfl, hb1⟩
        go_wp2_with fail
        refine (HPt.out _).mono ?_
        rintro e w2 ⟨⟨A2, c2, rfl, hO2⟩, hb2⟩
        have hw2 := bUp hb1 hb2
        have HO2 := Lib.hid hO2.elems
        clear hO2 hb1 hb2
        go_wp2_with fail
        refine (HSame.out _ A2 c2 HO2.out (HA.out.keep hw2) (by omega)).mono ?_
        rintro e w3 ⟨rfl, hb3⟩
        have hw3 := bUp hw2 hb3
        clear hw2 hb3
        go_wp2_with fail
        refine (HPl.out _).mono ?_
        rintro e w5 ⟨⟨A5, c5, rfl, hO5⟩, hb5⟩
        have hw5 := bUp hw3 hb5
        clear hb5 hw3
        rcases Hpb.out with ⟨hge, hbs⟩ | ⟨hge, hck, hfl⟩
        · subst hbs
          have r1 : (ge == 0) = false := by simp [hge]
          have r2 : (ge != 0) = true := by simp [hge]
          have HT5 := Lib.hid (fun w' h => elText [] A5 c5 w' h (by simp))
          rw [show textE [] = ([], 0) from rfl] at HT5
          dsimp only at HT5
          have Hge := Lib.hid hge
          clear hge
          clear hO5 HPl
          go_wp2_with fail
          go_loopw [11] (fun i wr => i = .int .i64 0 ∧ Below w.heap.size w wr) (fun _ _ => 0)
          case atStart => exact ⟨rfl, hw5⟩
          case round =>
            clear hw5
            obtain ⟨rfl, hbr⟩ := hrel
            go_wp2_with fail
            refine (HT5.out _ (fun h => absurd h (by simp))).mono ?_
            rintro e w6 ⟨rfl, hb6⟩
            go_wp2_with fail
            refine (elAlive _ (HE.out.keep (bUp hbr hb6))).mono ?_
            rintro e w7 ⟨rfl, hb7⟩
            go_wp2_with fail
            go_ret
            exact ⟨rfl, bUp (bUp hbr hb6) hb7⟩
        · subst hge
          have hbl := flatE_length bs
          rw [hfl] at hbl
          have hbl2 : bs.length ≤ 600 := by omega
          have HT5 := Lib.hid (fun w' h => elText bs A5 c5 w' h (by omega))
          rw [show textE bs = (l, 0) by rw [textE_of, if_pos hck, hfl]] at HT5
          dsimp only at HT5
          have HO5 := Lib.hid hO5.elems
          have HCk := Lib.hid (fun d (h : d ∈ bs) => chksE_mem hck h)
          have HE5 := Lib.hid (HE.out.keep hw5)
          have Hck := Lib.hid hck
          have Hfl := Lib.hid hfl
          have Hbl := Lib.hid hbl
          clear hck hfl hbl
          clear hO5 HPl
          go_wp2_with fail
          go_loopw [11] (fun i wr => ∃ k : Nat, k ≤ bs.length ∧ i = .int .i64 k ∧ Below w5.heap.size w5 wr) (fun i _ => bs.length - (intOf i).toNat)
          case atStart => exact ⟨0, Nat.zero_le _, rfl, Below.refl _ _⟩
          case round =>
            obtain ⟨k, hk, rfl, hbr⟩ := hrel
            by_cases hlt : k < bs.length
            · obtain ⟨b1, o1, rfl, h1, p0, p1, p2, p3⟩ := (HO5.out.keep hbr).at_ hlt
              have hki : (k : Int) < bs.length := by omega
              have hc0 := HCk.out _ (elemAt_mem hlt)
              generalize elemAt bs k = d at p0 p1 p2 p3 hc0
              have HC := Lib.hid (fun w' => elCheck d w')
              rw [hc0] at HC
              obtain ⟨p, s, t, v⟩ := d
              dsimp only at p0 p1 p2 p3 HC
              clear hc0
              go_wp2_with fail
              refine (HC.out _).mono ?_
              rintro e w6 ⟨rfl, hb6⟩
              go_wp2_with fail
              go_roundw
              case rel => exact ⟨k + 1, by omega, by go_num, bUp hbr hb6⟩
              case measure => simp [intOf]; omega
            · obtain rfl : k = bs.length := by omega
              have hki : ¬ (bs.length : Int) < bs.length := by omega
              go_wp2_with fail
              refine (HT5.out _ (HO5.out.keep hbr)).mono ?_
              rintro e w6 ⟨rfl, hb6⟩
              go_wp2_with fail
              refine (elAlive _ (HE5.out.keep (bUp hbr hb6))).mono ?_
              rintro e w7 ⟨rfl, hb7⟩
              go_wp2_with fail
              go_ret
              exact ⟨rfl, bUp hw5 (bUp (bUp hbr hb6) hb7)⟩
      · have ht : textE xs = ([], chksE xs) := by rw [textE_of, if_neg c1]
        rw [ht] at HTx
        have HPt := Lib.hid (fun w' => elParse [] w' (by simp))
        rw [show parseE [] = ([], 0) from rfl] at HPt
        dsimp only at HTx HPt
        have q1 : (chksE xs == 0) = false := by simp [c1]
        generalize chksE xs = ce at HTx q1
        have HA := Lib.hid hA
        have HE := Lib.hid hE
        have Hpb := Lib.hid hpb
        have Ht := Lib.hid ht
        clear hA hE hpb ht
        clear c1
        go_enter Tryd.func3, Tryd.ntmps3
        go_wp2_with fail
        refine (HSm.out _).mono ?_
        rintro e w0 ⟨rfl, rfl⟩
        go_wp2_with fail
        refine HTx.out.mono ?_
        rintro e w1 ⟨rfl, hb1⟩
        go_wp2_with fail
        refine (HPt.out _).mono ?_
        rintro e w2 ⟨⟨A2, c2, rfl, hO2⟩, hb2⟩
        have hw3 := bUp hb1 hb2
        clear hO2 hb1 hb2
        go_wp2_with fail
        refine (HPl.out _).mono ?_
        rintro e w5 ⟨⟨A5, c5, rfl, hO5⟩, hb5⟩
        have hw5 := bUp hw3 hb5
        clear hb5 hw3
        rcases Hpb.out with ⟨hge, hbs⟩ | ⟨hge, hck, hfl⟩
        · subst hbs
          have r1 : (ge == 0) = false := by simp [hge]
          have r2 : (ge != 0) = true := by simp [hge]
          have HT5 := Lib.hid (fun w' h => elText [] A5 c5 w' h (by simp))
          rw [show textE [] = ([], 0) from rfl] at HT5
          dsimp only at HT5
          have Hge := Lib.hid hge
          clear hge
          clear hO5 HPl
          go_wp2_with fail
          go_loopw [11] (fun i wr => i = .int .i64 0 ∧ Below w.heap.size w wr) (fun _ _ => 0)
          case atStart => exact ⟨rfl, hw5⟩
          case round =>
            clear hw5
            obtain ⟨rfl, hbr⟩ := hrel
            go_wp2_with fail
            refine (HT5.out _ (fun h => absurd h (by simp))).mono ?_
            rintro e w6 ⟨rfl, hb6⟩
            go_wp2_with fail
            refine (elAlive _ (HE.out.keep (bUp hbr hb6))).mono ?_
            rintro e w7 ⟨rfl, hb7⟩
            go_wp2_with fail
            go_ret
            exact ⟨rfl, bUp (bUp hbr hb6) hb7⟩
        · subst hge
          have hbl := flatE_length bs
          rw [hfl] at hbl
          have hbl2 : bs.length ≤ 600 := by omega
          have HT5 := Lib.hid (fun w' h => elText bs A5 c5 w' h (by omega))
          rw [show textE bs = (l, 0) by rw [textE_of, if_pos hck, hfl]] at HT5
          dsimp only at HT5
          have HO5 := Lib.hid hO5.elems
          have HCk := Lib.hid (fun d (h : d ∈ bs) => chksE_mem hck h)
          have HE5 := Lib.hid (HE.out.keep hw5)
          have Hck := Lib.hid hck
          have Hfl := Lib.hid hfl
          have Hbl := Lib.hid hbl
          clear hck hfl hbl
          clear hO5 HPl
          go_wp2_with fail
          go_loopw [11] (fun i wr => ∃ k : Nat, k ≤ bs.length ∧ i = .int .i64 k ∧ Below w5.heap.size w5 wr) (fun i _ => bs.length - (intOf i).toNat)
          case atStart => exact ⟨0, Nat.zero_le _, rfl, Below.refl _ _⟩
          case round =>
            obtain ⟨k, hk, rfl, hbr⟩ := hrel
            by_cases hlt : k < bs.length
            · obtain ⟨b1, o1, rfl, h1, p0, p1, p2, p3⟩ := (HO5.out.keep hbr).at_ hlt
              have hki : (k : Int) < bs.length := by omega
              have hc0 := HCk.out _ (elemAt_mem hlt)
              generalize elemAt bs k = d at p0 p1 p2 p3 hc0
              have HC := Lib.hid (fun w' => elCheck d w')
              rw [hc0] at HC
              obtain ⟨p, s, t, v⟩ := d
              dsimp only at p0 p1 p2 p3 HC
              clear hc0
              go_wp2_with fail
              refine (HC.out _).mono ?_
              rintro e w6 ⟨rfl, hb6⟩
              go_wp2_with fail
              go_roundw
              case rel => exact ⟨k + 1, by omega, by go_num, bUp hbr hb6⟩
              case measure => simp [intOf]; omega
            · obtain rfl : k = bs.length := by omega
              have hki : ¬ (bs.length : Int) < bs.length := by omega
              go_wp2_with fail
              refine (HT5.out _ (HO5.out.keep hbr)).mono ?_
              rintro e w6 ⟨rfl, hb6⟩
              go_wp2_with fail
              refine (elAlive _ (HE5.out.keep (bUp hbr hb6))).mono ?_
              rintro e w7 ⟨rfl, hb7⟩
              go_wp2_with fail
              go_ret
              exact ⟨rfl, bUp hw5 (bUp (bUp hbr hb6) hb7)⟩
    · have hg : decide ((600 : Int) < (l.length : Int)) = true := by simp; omega
      have HA := Lib.hid hA
      have HE := Lib.hid hE
      have H600 := Lib.hid h600
      clear hA hE h600
      go_enter Tryd.func3, Tryd.ntmps3
      go_wp2_with fail
      refine (HSm.out _).mono ?_
      rintro e w0 ⟨rfl, rfl⟩
      go_wp2_with fail
      refine (elAlive _ HE.out).mono ?_
      rintro e w6 ⟨rfl, hb6⟩
      go_wp2_with fail
      go_ret
      exact ⟨rfl, hb6⟩
  · rw [decide_eq_false h16] at HSm
    have HA := Lib.hid hA
    have HE := Lib.hid hE
    have H16 := Lib.hid h16
    clear hA hE h16
    go_enter Tryd.func3, Tryd.ntmps3
    go_wp2_with fail
    refine (HSm.out _).mono ?_
    rintro e w0 ⟨rfl, rfl⟩
    go_wp2_with fail
    refine (elAlive _ HE.out).mono ?_
    rintro e w6 ⟨rfl, hb6⟩
    go_wp2_with fail
    go_ret
    exact ⟨rfl, hb6⟩
end Go.Proofs.YthogkokifiibnaaDoor
