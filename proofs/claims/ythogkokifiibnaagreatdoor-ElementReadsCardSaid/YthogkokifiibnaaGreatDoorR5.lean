/- Parse of the reference; the law of Parse -/
import Derived.Test.YthogkokifiibnaaGreatDoorR4
namespace Go.Proofs.YthogkokifiibnaaGreatDoor
open Go.RowKit Go.Sort

set_option maxHeartbeats 8000000 in
set_option maxRecDepth 100000 in
theorem rfEParse (l : List UInt8) (w : World) (hl : l.length ≤ 65536) :
    Calls Tryz.prog 11 #[.string ⟨l.toArray⟩] w fun e w' => (∃ A c, e = .returned (.tuple #[.slice A (parseE l).1.length c, .int .i64 (parseE l).2]) ∧ OwnE w' w.heap.size (.slice A (parseE l).1.length c) (parseE l).1) ∧ Below w.heap.size w w' := by
  have HR := Lib.hid (rfForm l w hl)
  unfold ReadOut at HR
  cases hr : readE l with
  | none =>
    rw [hr] at HR
    have hp : parseE l = ([], 3) := by unfold parseE; rw [hr]
    rw [hp]
    have Hr := Lib.hid hr
    have Hp := Lib.hid hp
    clear hr hp
    go_enter Tryz.func11, Tryz.ntmps11
    go_wp2_with fail
    refine HR.out.mono ?_
    rintro e w1 ⟨rfl, hb1⟩
    go_wp2_with fail
    go_ret2
    exact ⟨⟨none, 0, rfl, OwnE.nil _ _⟩, hb1⟩
  | some es =>
    rw [hr] at HR
    have hlen := readE_len l.length (Nat.le_refl _) hr
    by_cases hc : chksE es = 0
    · have hp : parseE l = (es, 0) := by unfold parseE; rw [hr]; simp [hc]
      rw [hp]
      have Hr := Lib.hid hr
      have Hp := Lib.hid hp
      have Hc := Lib.hid hc
      clear hr hp hc
      go_enter Tryz.func11, Tryz.ntmps11
      go_wp2_with fail
      refine HR.out.mono ?_
      rintro e w1 ⟨⟨A, c, rfl, hO⟩, hb1⟩
      have HC := Lib.hid (rfChecks es A c w1 hO.elems (by omega))
      rw [Hc.out] at HC
      have HO := Lib.hid hO
      have Hlen := Lib.hid hlen
      clear hO hlen
      go_wp2_with fail
      refine HC.out.mono ?_
      rintro e w2 ⟨rfl, hb2⟩
      go_wp2_with fail
      go_ret2
      exact ⟨⟨A, c, rfl, HO.out.keep hb2⟩, bUp hb1 hb2⟩
    · have hp : parseE l = ([], chksE es) := by unfold parseE; rw [hr]; simp [hc]
      have hne : (chksE es != 0) = true := by simp [hc]
      rw [hp]
      generalize hce : chksE es = ce at hne
      have Hr := Lib.hid hr
      have Hp := Lib.hid hp
      have Hc := Lib.hid hc
      have Hce := Lib.hid hce
      clear hr hp hc hce
      go_enter Tryz.func11, Tryz.ntmps11
      go_wp2_with fail
      refine HR.out.mono ?_
      rintro e w1 ⟨⟨A, c, rfl, hO⟩, hb1⟩
      have HC := Lib.hid (rfChecks es A c w1 hO.elems (by omega))
      rw [Hce.out] at HC
      have HO := Lib.hid hO
      have Hlen := Lib.hid hlen
      clear hO hlen
      go_wp2_with fail
      refine HC.out.mono ?_
      rintro e w2 ⟨rfl, hb2⟩
      go_wp2_with fail
      go_ret2
      exact ⟨⟨none, 0, rfl, OwnE.nil _ _⟩, bUp hb1 hb2⟩

set_option maxHeartbeats 2000000 in
set_option maxRecDepth 100000 in
theorem lawEParses (l : List UInt8) (w : World) (hs : l.length ≤ 9223372036854775807) (hE : EnvF w) :
    Calls Tryz.prog 3 #[.string ⟨l.toArray⟩] w fun e w' => e = .returned (.bool true) ∧ Below w.heap.size w w' := by
  by_cases h600 : l.length ≤ 600
  · have hg : decide ((600 : Int) < (l.length : Int)) = false := by simp; omega
    have HP := Lib.hid (fun w' => elParse l w' (by omega))
    have HQ := Lib.hid (fun w' => rfEParse l w' (by omega))
    have hbl : (parseE l).1.length ≤ 1000000 := by
      rcases parse_back l with ⟨_, h⟩ | ⟨_, _, h⟩
      · rw [h]; simp
      · have := flatE_length (parseE l).1
        rw [h] at this
        omega
    generalize (parseE l).1 = bs at HP HQ hbl
    generalize (parseE l).2 = ge at HP HQ
    have q1 : (ge == ge) = true := by simp
    have HE := Lib.hid hE
    have H600 := Lib.hid h600
    clear hE h600
    go_enter Tryz.func3, Tryz.ntmps3
    go_wp2_with fail
    refine (HP.out _).mono ?_
    rintro e w1 ⟨⟨A1, c1, rfl, hO1⟩, hb1⟩
    have HO1 := Lib.hid hO1.elems
    clear hO1
    go_wp2_with fail
    refine (HQ.out _).mono ?_
    rintro e w2 ⟨⟨A2, c2, rfl, hO2⟩, hb2⟩
    have HO2 := Lib.hid hO2.elems
    clear hO2
    go_wp2_with fail
    refine (rfSameE bs A1 A2 c1 c2 _ (HO1.out.keep hb2) HO2.out hbl).mono ?_
    rintro e w3 ⟨rfl, hb3⟩
    have hw3 := bUp (bUp hb1 hb2) hb3
    go_wp2_with fail
    refine (elAlive _ (HE.out.keep hw3)).mono ?_
    rintro e w4 ⟨rfl, hb4⟩
    go_wp2_with fail
    go_ret
    exact ⟨rfl, bUp hw3 hb4⟩
  · have hg : decide ((600 : Int) < (l.length : Int)) = true := by simp; omega
    have HE := Lib.hid hE
    have H600 := Lib.hid h600
    clear hE h600
    go_enter Tryz.func3, Tryz.ntmps3
    go_wp2_with fail
    refine (elAlive _ HE.out).mono ?_
    rintro e w4 ⟨rfl, hb4⟩
    go_wp2_with fail
    go_ret
    exact ⟨rfl, hb4⟩
end Go.Proofs.YthogkokifiibnaaGreatDoor
