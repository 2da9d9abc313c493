/- The reference: checks, Text, hex, form, Parse of elements -/
import Derived.Test.YthogkokifiibnaaGreatDoorR1
import Derived.Test.YthogkokifiibnaaGreatDoorA12
import Derived.Test.YthogkokifiibnaaGreatDoorA6
namespace Go.Proofs.YthogkokifiibnaaGreatDoor
open Go.RowKit Go.Sort

set_option maxHeartbeats 2000000 in
set_option maxRecDepth 100000 in
theorem rfChecks (ls : List ElemD) (A : Option Addr) (cp : Nat) (w : World) (hA : ElemsAt w A ls) (hl : ls.length ≤ 1000000) :
    Calls Tryz.prog 25 #[.slice A ls.length cp] w fun e w' => e = .returned (.int .i64 (chksE ls)) ∧ Below w.heap.size w w' := by
  have HA := Lib.hid hA
  clear hA
  go_enter Tryz.func25, Tryz.ntmps25
  go_wp2_with fail
  go_loopw [3] (fun i wr => ∃ k : Nat, k ≤ ls.length ∧ i = .int .i64 k ∧ Hid ((ls.take k).all (fun d => chkE d == 0) = true) ∧ Below w.heap.size w wr) (fun i _ => ls.length - (intOf i).toNat)
  case atStart => exact ⟨0, Nat.zero_le _, rfl, Lib.hid rfl, Below.refl _ _⟩
  case round =>
    obtain ⟨k, hk, rfl, HK, hbr⟩ := hrel
    by_cases hlt : k < ls.length
    · obtain ⟨b1, o1, rfl, h1, p0, p1, p2, p3⟩ := (HA.out.keep hbr).at_ hlt
      have hbad := fun h => (chks_bad (elemAt_get hlt) HK.out h).1
      have hgood := fun h => chk_step (elemAt_get hlt) HK.out h
      generalize elemAt ls k = d at p0 p1 p2 p3 hbad hgood
      have HC := Lib.hid (fun w' => rfECheck d w')
      have hki : (k : Int) < ls.length := by omega
      by_cases hc : chkE d = 0
      · have Hg := Lib.hid (hgood hc)
        rw [hc] at HC
        obtain ⟨p, s, t, v⟩ := d
        dsimp only at p0 p1 p2 p3 HC
        have Hc := Lib.hid hc
        clear hc
        clear hbad hgood
        go_wp2_with fail
        refine (HC.out _).mono ?_
        rintro e w2 ⟨rfl, hb2⟩
        go_wp2_with fail
        go_roundw
        case rel => exact ⟨k + 1, by omega, by go_num, Hg, bUp hbr hb2⟩
        case measure => simp [intOf]; omega
      · have Hg := Lib.hid (hbad hc)
        have hne : (chkE d != 0) = true := by simp [hc]
        generalize chkE d = ce at HC Hg hne
        obtain ⟨p, s, t, v⟩ := d
        dsimp only at p0 p1 p2 p3 HC
        have Hc := Lib.hid hc
        clear hc
        clear hbad hgood
        go_wp2_with fail
        refine (HC.out _).mono ?_
        rintro e w2 ⟨rfl, hb2⟩
        go_wp2_with fail
        go_ret
        exact ⟨by rw [Hg.out]; rfl, bUp hbr hb2⟩
    · obtain rfl : k = ls.length := by omega
      have hki : ¬ (ls.length : Int) < ls.length := by omega
      have Hg := Lib.hid (chks_good (by have := HK.out; rwa [List.take_length] at this)).1
      go_wp2_with fail
      go_ret
      exact ⟨by rw [Hg.out]; rfl, hbr⟩

set_option maxHeartbeats 2000000 in
set_option maxRecDepth 100000 in
theorem rfEText (ls : List ElemD) (A : Option Addr) (cp : Nat) (w : World) (hA : ElemsAt w A ls) (hl : ls.length ≤ 1000) :
    Calls Tryz.prog 15 #[.slice A ls.length cp] w fun e w' => e = .returned (.tuple #[.string ⟨(textE ls).1.toArray⟩, .int .i64 (textE ls).2]) ∧ Below w.heap.size w w' := by
  have HC := Lib.hid (rfChecks ls A cp w hA (by omega))
  have htx := textE_of ls
  by_cases hc : chksE ls = 0
  · rw [if_pos hc] at htx
    have hall := chksE_zero hc
    rw [hc] at HC
    rw [htx]
    have HA := Lib.hid hA
    have Hall := Lib.hid hall
    clear hA hall
    clear htx hc
    go_enter Tryz.func15, Tryz.ntmps15
    go_wp2_with fail
    refine HC.out.mono ?_
    rintro e w1 ⟨rfl, hb1⟩
    have HA1 := Lib.hid (HA.out.keep hb1)
    have H1 := Lib.hid hb1
    clear hb1
    go_wp2_with fail
    go_loopw [5, 6] (fun s i wr => ∃ (k : Nat) (acc : List UInt8), k ≤ ls.length ∧ i = .int .i64 k ∧ s = .string ⟨acc.toArray⟩ ∧ acc.length ≤ 17 * k ∧ Hid (acc = (ls.take k).flatMap oneE) ∧ Below w1.heap.size w1 wr) (fun _ i _ => ls.length - (intOf i).toNat)
    case atStart => exact ⟨0, [], Nat.zero_le _, rfl, rfl, by simp, Lib.hid rfl, Below.refl _ _⟩
    case round =>
      obtain ⟨k, acc, hk, rfl, rfl, hal, HT, hbr⟩ := hrel
      by_cases hlt : k < ls.length
      · obtain ⟨b1, o1, rfl, h1, p0, p1, p2, p3⟩ := (HA1.out.keep hbr).at_ hlt
        have hok := chkE_inW (by have := List.all_eq_true.1 Hall.out _ (elemAt_mem hlt); simpa using this)
        have hst := flatE_snoc ls (elemAt_get hlt)
        have hki : (k : Int) < ls.length := by omega
        have hol := oneE_length (elemAt ls k)
        generalize elemAt ls k = d at p0 p1 p2 p3 hok hst hol
        have HO := Lib.hid (fun w' => rfOne d w' hok)
        generalize oneE d = od at hst hol HO
        obtain ⟨p, s, t, v⟩ := d
        dsimp only at p0 p1 p2 p3 HO
        have hcat : (⟨acc.toArray⟩ : ByteArray) ++ ⟨od.toArray⟩ = ⟨(acc ++ od).toArray⟩ := catE acc od
        have HS := Lib.hid (show acc ++ od = (ls.take (k + 1)).flatMap oneE by rw [hst, HT.out])
        have hl5 : (acc ++ od).length ≤ 17 * (k + 1) := by rw [List.length_append]; omega
        have hol' : od.length ≤ 17 := by omega
        generalize acc ++ od = acc2 at hcat HS hl5
        have Hst := Lib.hid hst
        have Hok := Lib.hid hok
        clear hst hok
        clear hol
        go_wp2_with fail
        refine (HO.out _).mono ?_
        rintro e w2 ⟨rfl, hb2⟩
        go_wp2_with fail
        go_roundw
        case rel => exact ⟨k + 1, acc2, by omega, by go_num, rfl, hl5, HS, bUp hbr hb2⟩
        case measure => simp [intOf]; omega
      · obtain rfl : k = ls.length := by omega
        have hki : ¬ (ls.length : Int) < ls.length := by omega
        have hfin := HT.out
        rw [List.take_length] at hfin
        have Hfin := Lib.hid hfin
        clear hfin
        go_wp2_with fail
        go_ret2
        exact ⟨by rw [Hfin.out]; rfl, bUp H1.out hbr⟩
  · rw [if_neg hc] at htx
    have hne : (chksE ls != 0) = true := by simp [hc]
    rw [htx]
    generalize chksE ls = ce at HC hne
    have HA := Lib.hid hA
    clear hA
    clear htx hc
    go_enter Tryz.func15, Tryz.ntmps15
    go_wp2_with fail
    refine HC.out.mono ?_
    rintro e w1 ⟨rfl, hb1⟩
    go_wp2_with fail
    go_ret2
    exact ⟨rfl, hb1⟩

/-- the law of Text -/
theorem rfSmall (ls : List ElemD) (A : Option Addr) (c : Nat) (w : World) (hl : ls.length ≤ 9223372036854775807) :
    Calls Tryz.prog 13 #[.slice A ls.length c] w fun e w' => e = .returned (.bool (decide (ls.length ≤ 16))) ∧ w = w' := by
  by_cases h : ls.length ≤ 16
  all_goals
    go_enter Tryz.func13, Tryz.ntmps13
    go_wp2
    go_ret
    exact ⟨by simp [h]; omega, rfl⟩
set_option maxHeartbeats 2000000 in
set_option maxRecDepth 100000 in
theorem lawETexts (xs : List ElemD) (A : Option Addr) (cap : Nat) (w : World) (hA : ElemsAt w A xs) (hl : xs.length ≤ 9223372036854775807) (hE : EnvF w) :
    Calls Tryz.prog 4 #[.slice A xs.length cap] w fun e w' => e = .returned (.bool true) ∧ Below w.heap.size w w' := by
  have HSm := Lib.hid (fun w' => rfSmall xs A cap w' hl)
  by_cases h16 : xs.length ≤ 16
  · rw [decide_eq_true h16] at HSm
    have HT := Lib.hid (fun w' h => elText xs A cap w' h (by omega))
    have HR := Lib.hid (fun w' h => rfEText xs A cap w' h (by omega))
    generalize (textE xs).1 = tx at HT HR
    generalize (textE xs).2 = te at HT HR
    have q1 : (tx == tx) = true := by simp
    have q2 : (te == te) = true := by simp
    have HA := Lib.hid hA
    have HE := Lib.hid hE
    have H16 := Lib.hid h16
    clear hA hE h16
    go_enter Tryz.func4, Tryz.ntmps4
    go_wp2_with fail
    refine (HSm.out _).mono ?_
    rintro e w0 ⟨rfl, rfl⟩
    go_wp2_with fail
    refine (HT.out _ HA.out).mono ?_
    rintro e w1 ⟨rfl, hb1⟩
    go_wp2_with fail
    refine (HR.out _ (HA.out.keep hb1)).mono ?_
    rintro e w2 ⟨rfl, hb2⟩
    have hw2 := bUp hb1 hb2
    go_wp2_with fail
    refine (elAlive _ (HE.out.keep hw2)).mono ?_
    rintro e w3 ⟨rfl, hb3⟩
    go_wp2_with fail
    go_ret
    exact ⟨rfl, bUp hw2 hb3⟩
  · rw [decide_eq_false h16] at HSm
    have HA := Lib.hid hA
    have HE := Lib.hid hE
    have H16 := Lib.hid h16
    clear hA hE h16
    go_enter Tryz.func4, Tryz.ntmps4
    go_wp2_with fail
    refine (HSm.out _).mono ?_
    rintro e w0 ⟨rfl, rfl⟩
    go_wp2_with fail
    refine (elAlive _ HE.out).mono ?_
    rintro e w3 ⟨rfl, hb3⟩
    go_wp2_with fail
    go_ret
    exact ⟨rfl, hb3⟩
end Go.Proofs.YthogkokifiibnaaGreatDoor
